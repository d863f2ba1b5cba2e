/- Lists read from their text, on both sides. Printed by gen_rd6.py. -/
import Derived.Test.YthomdggbmjknnaaDoorRd3
import Derived.Test.YthomdggbmjknnaaDoorRd5
import Derived.Test.YthomdggbmjknnaaDoorH2
import Derived.Shelf.LaysM
import Derived.Shelf.Strings.Split
namespace Go.Proofs.YthomdggbmjknnaaDoor
open Go.Shelf Go.RowKit
set_option linter.unusedVariables false

def laysM146_ren : Go.Shelf.Ren := ⟨fun | 146 => 41 | 221 => 55 | 268 => 73 | 138 => 74 | 143 => 75 | 195 => 89 | 197 => 90 | 218 => 91 | 219 => 92 | 260 => 98 | 217 => 99 | 225 => 100 | 224 => 101 | 267 => 102 | 266 => 103 | 314 => 104 | n => n, fun | 9 => 9 | 31 => 55 | 3 => 3 | 4 => 4 | 0 => 0 | 105 => 108 | 21 => 21 | 5 => 5 | 46 => 88 | 119 => 120 | 139 => 123 | 138 => 122 | 146 => 124 | 51 => 97 | n => n, fun | 1 => 3 | 3 => 6 | 4 => 7 | n => n⟩
theorem laysM146 : Go.Proofs.LaysM.n146 Tryd.prog laysM146_ren :=
  { mixed := by kernel_rfl,
    f138 := Tryd.func74.trans (congrArg some (by kernel_rfl)),
    f143 := Tryd.func75.trans (congrArg some (by kernel_rfl)),
    f146 := Tryd.func41.trans (congrArg some (by kernel_rfl)),
    f195 := Tryd.func89.trans (congrArg some (by kernel_rfl)),
    f197 := Tryd.func90.trans (congrArg some (by kernel_rfl)),
    f217 := Tryd.func99.trans (congrArg some (by kernel_rfl)),
    f218 := Tryd.func91.trans (congrArg some (by kernel_rfl)),
    f219 := Tryd.func92.trans (congrArg some (by kernel_rfl)),
    f221 := Tryd.func55.trans (congrArg some (by kernel_rfl)),
    f224 := Tryd.func101.trans (congrArg some (by kernel_rfl)),
    f225 := Tryd.func100.trans (congrArg some (by kernel_rfl)),
    f260 := Tryd.func98.trans (congrArg some (by kernel_rfl)),
    f266 := Tryd.func103.trans (congrArg some (by kernel_rfl)),
    f267 := Tryd.func102.trans (congrArg some (by kernel_rfl)),
    f268 := Tryd.func73.trans (congrArg some (by kernel_rfl)),
    f314 := Tryd.func104.trans (congrArg some (by kernel_rfl)),
    t0 := Tryd.underlying0,
    a0 := Tryd.isAgg0,
    z0 := Tryd.sizeOf0,
    v0 := Tryd.zeroValue0,
    t3 := Tryd.underlying3,
    a3 := Tryd.isAgg3,
    z3 := Tryd.sizeOf3,
    v3 := Tryd.zeroValue3,
    t4 := Tryd.underlying4,
    a4 := Tryd.isAgg4,
    z4 := Tryd.sizeOf4,
    v4 := Tryd.zeroValue4,
    t5 := Tryd.underlying5,
    a5 := Tryd.isAgg5,
    z5 := Tryd.sizeOf5,
    v5 := Tryd.zeroValue5,
    t9 := Tryd.underlying9,
    a9 := Tryd.isAgg9,
    z9 := Tryd.sizeOf9,
    v9 := Tryd.zeroValue9,
    t21 := Tryd.underlying21,
    a21 := Tryd.isAgg21,
    z21 := Tryd.sizeOf21,
    v21 := Tryd.zeroValue21,
    t31 := Tryd.underlying55,
    a31 := Tryd.isAgg55,
    z31 := Tryd.sizeOf55,
    v31 := Tryd.zeroValue55,
    t46 := Tryd.underlying88,
    a46 := Tryd.isAgg88,
    z46 := Tryd.sizeOf88,
    v46 := Tryd.zeroValue88,
    t51 := Tryd.underlying97,
    a51 := Tryd.isAgg97,
    z51 := Tryd.sizeOf97,
    v51 := Tryd.zeroValue97,
    t105 := Tryd.underlying108,
    a105 := Tryd.isAgg108,
    z105 := Tryd.sizeOf108,
    v105 := Tryd.zeroValue108,
    t119 := Tryd.underlying120,
    a119 := Tryd.isAgg120,
    z119 := Tryd.sizeOf120,
    t138 := Tryd.underlying122,
    a138 := Tryd.isAgg122,
    z138 := Tryd.sizeOf122,
    v138 := Tryd.zeroValue122,
    t139 := Tryd.underlying123,
    a139 := Tryd.isAgg123,
    z139 := Tryd.sizeOf123,
    v139 := Tryd.zeroValue123,
    t146 := Tryd.underlying124,
    a146 := Tryd.isAgg124,
    z146 := Tryd.sizeOf124,
    v146 := Tryd.zeroValue124,
    g1 := by kernel_rfl,
    g3 := by kernel_rfl,
    g4 := by kernel_rfl,
    i0 := by kernel_rfl,
    i3 := by kernel_rfl,
    i4 := by kernel_rfl,
    i5 := by kernel_rfl,
    i9 := by kernel_rfl,
    i21 := by kernel_rfl,
    i31 := by kernel_rfl,
    i46 := by kernel_rfl,
    i51 := by kernel_rfl,
    i105 := by kernel_rfl,
    i138 := by kernel_rfl,
    i139 := by kernel_rfl,
    i146 := by kernel_rfl,
    m1 := by kernel_rfl,
    s1_3 := fun w h => Go.Proofs.cell_of_shapedOpen_int (zero := #[.int .i64 0]) (t := 3) h (of_decide_eq_true (by kernel_rfl)) (by kernel_rfl) rfl (by kernel_rfl) (by kernel_rfl) Tryd.underlying3,
    m3 := by kernel_rfl,
    m4 := by kernel_rfl }

/-- Two values made side by side. -/
def Pr {α β : Type} (RA : Rep α) (RB : Rep β) (w0 wr : World) (va vb : Value) (a : α) (b : β) : Prop := ∃ Sa Sb, RA wr va a Sa ∧ RB wr vb b Sb ∧ (∀ k ∈ Sa, k ∉ Sb) ∧ (∀ k ∈ Sa, w0.heap.size ≤ k) ∧ (∀ k ∈ Sb, w0.heap.size ≤ k) ∧ Below w0.heap.size w0 wr
section pr
variable {α β : Type} {RA : Rep α} {RB : Rep β} {w0 wr : World} {va vb : Value} {a : α} {b : β}
theorem Pr.swap (h : Pr RA RB w0 wr va vb a b) : Pr RB RA w0 wr vb va b a := by
  obtain ⟨Sa, Sb, h1, h2, h3, h4, h5, h6⟩ := h
  exact ⟨Sb, Sa, h2, h1, fun k hk hm => h3 k hm hk, h5, h4, h6⟩
theorem Pr.bel (h : Pr RA RB w0 wr va vb a b) : Below w0.heap.size w0 wr := by obtain ⟨_, _, _, _, _, _, _, h6⟩ := h; exact h6
theorem Pr.fst (h : Pr RA RB w0 wr va vb a b) : Fresh RA w0 wr va a := by obtain ⟨Sa, Sb, h1, h2, h3, h4, h5, h6⟩ := h; exact ⟨Sa, h1, h4, h6⟩
theorem Pr.keep (hA : RA.Ok) (hB : RB.Ok) (h : Pr RA RB w0 wr va vb a b) {w' : World} (hb : Below wr.heap.size wr w') : Pr RA RB w0 w' va vb a b := by
  obtain ⟨Sa, Sb, h1, h2, h3, h4, h5, h6⟩ := h
  exact ⟨Sa, Sb, hA.keep h1 fun k hk => hb.block k (hA.lt h1 k hk), hB.keep h2 fun k hk => hb.block k (hB.lt h2 k hk), h3, h4, h5, h6.trans (hb.mono h6.size)⟩
/-- One number more on the left. -/
theorem Pr.pushL (hA : RA.Ok) (hB : RB.Ok) (h : Pr RA RB w0 wr va vb a b) : ∃ Sa, RA wr va a Sa ∧ ∀ v w' S' a', RA w' v a' S' → Only Sa wr w' → (∀ k ∈ S', k ∈ Sa ∨ k ∈ ([] : List Nat) ∨ wr.heap.size ≤ k) → Pr RA RB w0 w' v vb a' b := by
  obtain ⟨Sa, Sb, h1, h2, h3, h4, h5, h6⟩ := h
  refine ⟨Sa, h1, fun v w' S' a' g1 g2 g3 => ⟨S', Sb, g1, hB.keep h2 fun k hk => g2.block k (hB.lt h2 k hk) (fun hm => h3 k hm hk), fun k hk hm => ?_, fun k hk => ?_, h5, below_only h6 g2 h6.size h4⟩⟩
  · rcases g3 k hk with e | e | e
    · exact h3 k e hm
    · simp at e
    · have := hB.lt h2 k hm; omega
  · rcases g3 k hk with e | e | e
    · exact h4 k e
    · simp at e
    · have := h6.size; omega
end pr

theorem own_sl {α : Type} [Inhabited α] {E : TypeId} {R : Rep α} {w : World} {v : Value} {xs : List α} {S : List Nat} (h : Own E R w v xs S) : ∃ a n c, v = .slice a n c ∧ n = xs.length ∧ n ≤ c := by
  rcases h with ⟨rfl, rfl, _⟩ | ⟨g, cap, cur, Ss, rfl, _, _, h2, _⟩
  · exact ⟨none, 0, 0, rfl, rfl, Nat.le_refl _⟩
  · exact ⟨_, _, _, rfl, rfl, h2⟩
abbrev OSt := Own 9 oS
theorem OSt.ok : Rep.Ok OSt := Own.ok oS.ok

/-! ### The library's Split -/
structure LaidM (w : World) : Prop extends LaidV w where
  mx : ∃ m, w.cell? ⟨3, 0, none⟩ = some (.int .i64 m)
theorem LaidM.keep {w w' : World} (h : LaidM w) (hb : Below w.heap.size w w') : LaidM w' := by
  obtain ⟨h0, m, h1⟩ := h
  exact ⟨h0.keep hb, m, (hb.cell (show (⟨3, 0, none⟩ : Addr).block < w.heap.size from Lib.lt_of_cell h1)).trans h1⟩
theorem implSplit (s : ByteArray) (hs : s.size ≤ 1048576) (c : UInt8) (w : World) (hl : LaidM w) :
    Calls Tryd.prog 41 #[.string s, .string ⟨#[c]⟩] w fun e w' => ∃ v, e = .returned v ∧ Fresh OSt w w' v (cutP s (c.toNat : Int)) := by
  obtain ⟨m, hm⟩ := hl.mx
  obtain ⟨e1, e2⟩ := split_eq s c
  refine (Any.strings_Split { laysM146 with } laysM146.i9 s ⟨#[c]⟩ m w (by omega) hm (by simp [ByteArray.size])).mono fun e w' ⟨he, hw⟩ => ?_
  rw [e1] at hw
  rw [e2] at he
  subst he hw
  refine ⟨_, rfl, [w.heap.size], ?_, by simp, (Below.refl _ _).alloc (Nat.le_refl _) _⟩
  have := (cutP_len s (c.toNat : Int)).2
  exact Own.lit w 9 fS (cutP s (c.toNat : Int)) (by unfold maxLen; omega)

/-! ### The reference's cut -/
def outAt (s : ByteArray) (c : Int) (k : Nat) : List ByteArray := if k ≤ s.size then (cutTo s c k).ps else cutP s c
def frAt (s : ByteArray) (c : Int) (k : Nat) : Nat := if k ≤ s.size then (cutTo s c k).fr else k
theorem cutAt_hit {s : ByteArray} {c : Int} {k : Nat} (h : k < s.size) (hc : byt s k = c) : outAt s c (k + 1) = outAt s c k ++ [s.extract (frAt s c k) k] ∧ frAt s c (k + 1) = k + 1 := by
  unfold outAt frAt
  rw [if_pos (by omega), if_pos (by omega), if_pos (by omega), if_pos (by omega), cutTo_succ]
  unfold cutStep
  rw [if_pos hc]
  exact ⟨rfl, rfl⟩
theorem cutAt_miss {s : ByteArray} {c : Int} {k : Nat} (h : k < s.size) (hc : ¬ byt s k = c) : outAt s c (k + 1) = outAt s c k ∧ frAt s c (k + 1) = frAt s c k := by
  unfold outAt frAt
  rw [if_pos (by omega), if_pos (by omega), if_pos (by omega), if_pos (by omega), cutTo_succ]
  unfold cutStep
  rw [if_neg hc]
  exact ⟨rfl, rfl⟩
theorem cutAt_end (s : ByteArray) (c : Int) : outAt s c (s.size + 1) = outAt s c s.size ++ [s.extract (frAt s c s.size) s.size] ∧ frAt s c (s.size + 1) = s.size + 1 ∧ outAt s c (s.size + 1) = cutP s c := by
  unfold outAt frAt
  rw [if_neg (by omega), if_pos (by omega), if_pos (by omega), if_neg (by omega)]
  exact ⟨rfl, rfl, rfl⟩
theorem cutAt_bd (s : ByteArray) (c : Int) {k : Nat} (h : k ≤ s.size) : frAt s c k ≤ k ∧ (outAt s c k).length ≤ k := by
  unfold outAt frAt
  rw [if_pos h, if_pos h]
  exact cutTo_bd s c k

set_option maxHeartbeats 3200000 in
set_option maxRecDepth 100000 in
theorem specCut (s : ByteArray) (hs : s.size ≤ 1048576) (c : Int) (w : World) :
    Calls Tryd.prog 54 #[.string s, .int .u8 c] w fun e w' => ∃ v, e = .returned v ∧ Fresh OSt w w' v (cutP s c) := by
  go_enter Tryd.func54, Tryd.ntmps54
  go_wp2
  go_loopw [5, 6, 7] (fun ov fv iv wr => ∃ k fr : Nat, k ≤ s.size + 1 ∧ iv = .int .i64 k ∧ fv = .int .i64 fr ∧ Hid (fr = frAt s c k) ∧ Hid (Fresh OSt w wr ov (outAt s c k))) (fun _ _ iv _ => s.size + 1 - (intOf iv).toNat)
  case atStart => exact ⟨0, 0, Nat.zero_le _, rfl, rfl, Lib.hid (by simp [frAt, cutTo]), Lib.hid (by rw [show outAt s c 0 = [] by simp [outAt, cutTo]]; exact Fresh.empty (Below.refl _ _))⟩
  case round =>
    obtain ⟨k, fr, hk, rfl, rfl, hfr, hf⟩ := hrel
    have hb := get_bt s
    have hd := byt_bd s k
    obtain ⟨a0, n0, c0, rfl, hn0, hcap0⟩ := own_sl hf.out.choose_spec.1
    have Hn0 := Lib.hid hn0
    clear hn0
    by_cases hlt : k < s.size
    · have hbd := cutAt_bd s c (k := k) (by omega)
      rw [← hfr.out] at hbd
      have hl2 := Lib.hid hbd.2
      have hfk := hbd.1
      have hne : ¬ k = s.size := by omega
      clear hbd
      by_cases hc : byt s k = c
      · have hst := cutAt_hit hlt hc
        rw [← hfr.out] at hst
        have h1 := Lib.hid hst.1
        have h2 := Lib.hid hst.2
        have hcb : (byt s k == c) = true := by simpa using hc
        clear hst hc
        go_wp2_with (at_builtin; refine wpList_pushF rfl _ _ 55 rfl (f := fS) (fun _ => rfl) Tryd.underlying55 infoStr rfl hf.out (s.extract fr k) (by have := hl2.out; omega) (by have := hl2.out; unfold maxLen; omega) rfl rfl ?_; intro v1 w3 hf1; have Hf1 := Lib.hid hf1; clear hf1)
        go_roundw
        case rel => exact ⟨k + 1, k + 1, by omega, by go_num, by go_num, Lib.hid h2.out.symm, by rw [h1.out]; exact Hf1⟩
        case measure => (first | (simp [intOf]; done) | (simp [intOf]; omega))
      · have hst := cutAt_miss hlt hc
        rw [← hfr.out] at hst
        have h1 := Lib.hid hst.1
        have h2 := Lib.hid hst.2
        have hcb : (byt s k == c) = false := by simpa using hc
        clear hst
        go_wp2
        go_roundw
        case rel => exact ⟨k + 1, fr, by omega, by go_num, rfl, Lib.hid h2.out.symm, by rw [h1.out]; exact hf⟩
        case measure => (first | (simp [intOf]; done) | (simp [intOf]; omega))
    · by_cases hke : k = s.size
      · subst hke
        have hbd := cutAt_bd s c (Nat.le_refl s.size)
        rw [← hfr.out] at hbd
        have hl2 := Lib.hid hbd.2
        have hfk := hbd.1
        have hst := cutAt_end s c
        rw [← hfr.out] at hst
        have h1 := Lib.hid hst.1
        have h2 := Lib.hid hst.2.1
        clear hst hbd
        go_wp2_with (at_builtin; refine wpList_pushF rfl _ _ 55 rfl (f := fS) (fun _ => rfl) Tryd.underlying55 infoStr rfl hf.out (s.extract fr s.size) (by have := hl2.out; omega) (by have := hl2.out; unfold maxLen; omega) rfl rfl ?_; intro v1 w3 hf1; have Hf1 := Lib.hid hf1; clear hf1)
        go_roundw
        case rel => exact ⟨s.size + 1, s.size + 1, by omega, by go_num, by go_num, Lib.hid h2.out.symm, by rw [h1.out]; exact Hf1⟩
        case measure => (first | (simp [intOf]; done) | (simp [intOf]; omega))
      · obtain ⟨hk1⟩ : Nonempty (k = s.size + 1) := ⟨by omega⟩
        have e1 := (cutAt_end s c).2.2
        rw [← hk1] at e1
        rw [e1] at hf
        clear hk1 e1
        go_wp2
        go_ret
        exact ⟨_, rfl, hf.out⟩

/-! ### Lists of numbers -/
theorem noneB (s : ByteArray) : (s.toList == [110, 111, 110, 101]) = decide (s = noneS) := by
  rw [Bool.eq_iff_iff, beq_iff_eq, decide_eq_true_eq, ByteArray.toList_eq]
  constructor
  · intro h
    apply ByteArray.ext
    apply Array.toList_inj.1
    rw [h]; rfl
  · intro h
    rw [h]; rfl
theorem pr_start {w w2 : World} {ov pv : Value} {ps : List ByteArray} {L : List Int} {W : World} (ho : Fresh OI w W ov L) (hp : Fresh OSt W w2 pv ps) : Pr OI OSt w w2 ov pv L ps := by
  obtain ⟨S, h1, h2, h3⟩ := ho
  obtain ⟨T, g1, g2, g3⟩ := hp
  have hz := h3.size
  exact ⟨S, T, OI.ok.keep h1 fun k hk => g3.block k (OI.ok.lt h1 k hk), g1, fun k hk hm => by have := OI.ok.lt h1 k hk; have := g2 k hm; omega, h2, fun k hk => by have := g2 k hk; omega, h3.trans (g3.mono hz)⟩
theorem pr_cell {w wr : World} {ov pv : Value} {L : List Int} {ps : List ByteArray} (h : Pr OI OSt w wr ov pv L ps) {k : Nat} (hk : k < ps.length) : ∃ b o c, pv = .slice (some ⟨b, o, none⟩) ps.length c ∧ ps.length ≤ c ∧ wr.cell? ⟨b, o + k, none⟩ = some (.string (nth ps k)) := by
  obtain ⟨a, c, rfl, h1, h2, hrd⟩ := h.swap.fst.rd (Own.leads leaf.leads) OSt.ok
  obtain ⟨b, o, u, rfl, _, hc, rfl⟩ := hrd k hk
  exact ⟨b, o, c, rfl, h1, hc⟩

set_option maxHeartbeats 6400000 in
set_option maxRecDepth 100000 in
theorem specNumbers (s : ByteArray) (hs : s.size ≤ 1048576) (w : World) :
    Calls Tryd.prog 40 #[.string s] w fun e w' => ∃ v, e = .returned (.tuple #[v, .bool (rlOk s)]) ∧ Fresh OI w w' v (rlV s) := by
  have hf0 := Fresh.empty (E := 2) (R := oI) (Below.refl w.heap.size w)
  by_cases hno : s = noneS
  · have hv := rl_none hno
    have h1 := Lib.hid hv.1
    have h2 := Lib.hid hv.2
    have hs1 : (s.toList == [110, 111, 110, 101]) = true := (noneB s).trans (by simpa using hno)
    have Hf0 := Lib.hid hf0
    clear hno hv hf0
    go_enter Tryd.func40, Tryd.ntmps40
    go_wp2
    go_ret2
    exact ⟨_, by rw [h1.out]; rfl, by rw [h2.out]; exact Hf0.out⟩
  have hs1 : (s.toList == [110, 111, 110, 101]) = false := (noneB s).trans (by simpa using hno)
  obtain ⟨W1, hW1⟩ : ∃ W1, W1 = w.alloc (.cells #[] 2) := ⟨_, rfl⟩
  rw [← hW1] at hf0
  have Hb1 := Lib.hid (show Below w.heap.size w W1 by rw [hW1]; exact (Below.refl _ _).alloc (Nat.le_refl _) _)
  have HW1 := Lib.hid hW1
  have Hf0 := Lib.hid hf0
  have hcut := Lib.hid (specCut s hs 32 W1)
  obtain ⟨ps, hps0⟩ : ∃ ps, ps = cutP s 32 := ⟨_, rfl⟩
  have Hps := Lib.hid hps0
  have hpl := (cutP_len s 32)
  rw [← hps0] at hpl
  have hps : ∀ k, k < ps.length → (nth ps k).size ≤ 1048576 := fun k hk => by rw [hps0] at hk ⊢; exact Nat.le_trans (cutP_size s 32 k hk) hs
  clear hf0 hW1 hps0
  go_enter Tryd.func40, Tryd.ntmps40
  go_wp2_with fail
  rw [← HW1.out]
  refine (Calls.mono hcut.out ?_)
  rintro e W2 ⟨pv, rfl, hp⟩
  have hpr := pr_start Hf0.out hp
  rw [← Hps.out] at hpr
  have Hpr := Lib.hid hpr
  obtain ⟨ga, gn, hc, rfl, hgn, hcap⟩ := own_sl hpr.swap.fst.choose_spec.1
  subst hgn
  clear hp hpr hcut
  by_cases hlong : 40 < ps.length
  · have hv := rl_long hno (by rw [← Hps.out]; exact hlong)
    have h1 := Lib.hid hv.1
    have h2 := Lib.hid hv.2
    have Hb2 := Lib.hid Hpr.out.bel
    clear hv
    go_wp2
    go_ret2
    exact ⟨_, by rw [h1.out]; rfl, by rw [h2.out]; exact ⟨[], own_nil _, by simp, Hb2.out⟩⟩
  go_wp2
  go_loopw [4, 6] (fun ov iv wr => ∃ k : Nat, k ≤ ps.length ∧ k ≤ 40 ∧ iv = .int .i64 k ∧ Hid (rdTo ps k = true) ∧ Hid (Pr OI OSt w wr ov (.slice ga ps.length hc) ((ps.take k).map rdV) ps)) (fun _ iv _ => ps.length - (intOf iv).toNat)
  case atStart => exact ⟨0, Nat.zero_le _, Nat.zero_le _, rfl, Lib.hid rfl, Hpr⟩
  case round =>
    clear Hpr
    obtain ⟨k, hk, hk40, rfl, hto, hq⟩ := hrel
    obtain ⟨a0, n0, c0, rfl, hn0, hcap0⟩ := own_sl hq.out.fst.choose_spec.1
    obtain rfl : k = n0 := by rw [hn0]; simp; omega
    clear hn0
    by_cases hkl : k < ps.length
    · obtain ⟨b, ob, cb, he, hcb, hcell⟩ := pr_cell hq.out hkl
      simp only [Value.slice.injEq, true_and] at he
      obtain ⟨rfl, rfl⟩ := he
      cases hrb : rdB (nth ps k)
      · have hv := rl_bad hno (show (cutP s 32).all rdB = false by rw [← Hps.out]; exact rdTo_no hkl hrb)
        have h1 := Lib.hid hv.1
        have h2 := Lib.hid hv.2
        have Hbl := Lib.hid hq.out.bel
        have hz0 := Lib.hid (rdV_no hrb)
        clear hv
        go_wp2_with (go_at_call 38; refine (specValue (nth ps k) (by have := hps k hkl; unfold maxLen; omega) _).mono ?_; rintro e w2 ⟨rfl, hb2⟩)
        go_ret2
        exact ⟨_, by rw [h1.out]; rfl, by rw [h2.out]; exact ⟨[], own_nil _, by simp, Hbl.out.trans (hb2.mono Hbl.out.size)⟩⟩
      · skip
        have hto2 := Lib.hid (show rdTo ps (k + 1) = true by rw [rdTo_succ hkl, hto.out, hrb]; rfl)
        have hsn := Lib.hid (map_snoc ps hkl)
        have hln := Lib.hid (show ((ps.take k).map rdV).length ≤ 40 by simp; omega)
        go_wp2_with (first
          | (go_at_call 38; refine (specValue (nth ps k) (by have := hps k hkl; unfold maxLen; omega) _).mono ?_; rintro e w2 ⟨rfl, hb2⟩; have hq2 := hq.out.keep OI.ok OSt.ok hb2; obtain ⟨So, ho, hp⟩ := hq2.pushL OI.ok OSt.ok; have Ho := Lib.hid ho; have Hp := Lib.hid hp; clear ho hp hq2)
          | (at_builtin; refine wpList_push rfl _ _ 24 rfl oI.ok Tryd.underlying24 infoI64 rfl Ho.out (T := []) (y := rdV (nth ps k)) ⟨rfl, rfl⟩ (by simp) (by have := hln.out; omega) (by have := hln.out; unfold maxLen; omega) rfl rfl ?_; intro v1 w5 S5 ho5 hn5 hS5; have hq5 := Lib.hid (Hp.out v1 w5 S5 _ ho5 hn5 hS5); clear ho5 hn5 hS5))
        go_roundw
        case rel => exact ⟨k + 1, by omega, by omega, by go_num, hto2, by rw [hsn.out]; exact hq5⟩
        case measure => (first | (simp [intOf]; done) | (simp [intOf]; omega))
    · obtain ⟨hke⟩ : Nonempty (k = ps.length) := ⟨by omega⟩
      have htk : ps.take k = ps := by rw [hke, List.take_length]
      rw [hke] at hto hk40
      rw [htk] at hq
      have hv := rl_yes hno (show (cutP s 32).length ≤ 40 by rw [← Hps.out]; exact hk40) (by rw [← Hps.out]; have := hto.out; unfold rdTo at this; rwa [List.take_length] at this)
      rw [← Hps.out] at hv
      have h1 := Lib.hid hv.1
      have h2 := Lib.hid hv.2
      have hfin := Lib.hid hq.out.fst
      clear hv hke hq htk
      go_wp2
      go_ret2
      exact ⟨_, by rw [h1.out]; rfl, by rw [h2.out]; exact hfin.out⟩

set_option maxHeartbeats 6400000 in
set_option maxRecDepth 100000 in
theorem implReadList (s : ByteArray) (hs : s.size ≤ 1048576) (w : World) (hl : LaidM w) :
    Calls Tryd.prog 18 #[.string s] w fun e w' => ∃ v, e = .returned (.tuple #[v, .bool (rlOk s)]) ∧ Fresh OI w w' v (rlV s) := by
  have hf0 := Fresh.empty (E := 2) (R := oI) (Below.refl w.heap.size w)
  by_cases hno : s = noneS
  · have hv := rl_none hno
    have h1 := Lib.hid hv.1
    have h2 := Lib.hid hv.2
    have hs1 : (s.toList == [110, 111, 110, 101]) = true := (noneB s).trans (by simpa using hno)
    have Hf0 := Lib.hid hf0
    clear hno hv hf0
    go_enter Tryd.func18, Tryd.ntmps18
    go_wp2
    go_ret2
    exact ⟨_, by rw [h1.out]; rfl, by rw [h2.out]; exact Hf0.out⟩
  have hs1 : (s.toList == [110, 111, 110, 101]) = false := (noneB s).trans (by simpa using hno)
  obtain ⟨W1, hW1⟩ : ∃ W1, W1 = w.alloc (.cells #[] 2) := ⟨_, rfl⟩
  rw [← hW1] at hf0
  have Hb1 := Lib.hid (show Below w.heap.size w W1 by rw [hW1]; exact (Below.refl _ _).alloc (Nat.le_refl _) _)
  have HW1 := Lib.hid hW1
  have Hf0 := Lib.hid hf0
  have hcut := Lib.hid (implSplit s hs 32 W1 (hl.keep Hb1.out))
  obtain ⟨ps, hps0⟩ : ∃ ps, ps = cutP s 32 := ⟨_, rfl⟩
  have Hps := Lib.hid hps0
  have hpl := (cutP_len s 32)
  rw [← hps0] at hpl
  have hps : ∀ k, k < ps.length → (nth ps k).size ≤ 1048576 := fun k hk => by rw [hps0] at hk ⊢; exact Nat.le_trans (cutP_size s 32 k hk) hs
  have Hl := Lib.hid hl
  clear hl
  clear hf0 hW1 hps0
  go_enter Tryd.func18, Tryd.ntmps18
  go_wp2_with fail
  rw [← HW1.out]
  refine (Calls.mono hcut.out ?_)
  rintro e W2 ⟨pv, rfl, hp⟩
  have hpr := pr_start Hf0.out hp
  rw [show cutP s ((32 : UInt8).toNat : Int) = ps from Hps.out.symm] at hpr
  have Hpr := Lib.hid hpr
  obtain ⟨ga, gn, hc, rfl, hgn, hcap⟩ := own_sl hpr.swap.fst.choose_spec.1
  subst hgn
  clear hp hpr hcut
  go_wp2_with fail
  go_loopw [4, 16] (fun ov iv wr => ∃ k : Nat, k ≤ ps.length ∧ k ≤ 40 ∧ iv = .int .i64 k ∧ Hid (rdTo ps k = true) ∧ Hid (Pr OI OSt w wr ov (.slice ga ps.length hc) ((ps.take k).map rdV) ps)) (fun _ iv _ => ps.length - (intOf iv).toNat)
  case atStart => exact ⟨0, Nat.zero_le _, Nat.zero_le _, rfl, Lib.hid rfl, Hpr⟩
  case round =>
    clear Hpr
    obtain ⟨k, hk, hk40, rfl, hto, hq⟩ := hrel
    obtain ⟨a0, n0, c0, rfl, hn0, hcap0⟩ := own_sl hq.out.fst.choose_spec.1
    obtain rfl : k = n0 := by rw [hn0]; simp; omega
    clear hn0
    by_cases hkl : k < ps.length
    · obtain ⟨b, ob, cb, he, hcb, hcell⟩ := pr_cell hq.out hkl
      simp only [Value.slice.injEq, true_and] at he
      obtain ⟨rfl, rfl⟩ := he
      cases hrb : rdB (nth ps k)
      · have hv := rl_bad hno (show (cutP s 32).all rdB = false by rw [← Hps.out]; exact rdTo_no hkl hrb)
        have h1 := Lib.hid hv.1
        have h2 := Lib.hid hv.2
        have Hbl := Lib.hid hq.out.bel
        have hz0 := Lib.hid (rdV_no hrb)
        clear hv
        go_wp2_with (go_at_call 16; refine (implReadDecimal (nth ps k) (by have := hps k hkl; omega) _ (Hl.out.toLaidV.keep (hq.out.bel))).mono ?_; rintro e w2 ⟨rfl, hb2⟩)
        go_ret2
        exact ⟨_, by rw [h1.out]; rfl, by rw [h2.out]; exact ⟨[], own_nil _, by simp, Hbl.out.trans (hb2.mono Hbl.out.size)⟩⟩
      · by_cases hk4 : k = 40
        · have hv := rl_long hno (show 40 < (cutP s 32).length by rw [← Hps.out]; omega)
          have hk4b : ((k : Int) == 40) = true := by simp; omega
          clear hk4
          have h1 := Lib.hid hv.1
          have h2 := Lib.hid hv.2
          have Hbl := Lib.hid hq.out.bel
          clear hv
          go_wp2_with (go_at_call 16; refine (implReadDecimal (nth ps k) (by have := hps k hkl; omega) _ (Hl.out.toLaidV.keep (hq.out.bel))).mono ?_; rintro e w2 ⟨rfl, hb2⟩)
          go_ret2
          exact ⟨_, by rw [h1.out]; rfl, by rw [h2.out]; exact ⟨[], own_nil _, by simp, Hbl.out.trans (hb2.mono Hbl.out.size)⟩⟩
        have hto2 := Lib.hid (show rdTo ps (k + 1) = true by rw [rdTo_succ hkl, hto.out, hrb]; rfl)
        have hsn := Lib.hid (map_snoc ps hkl)
        have hln := Lib.hid (show ((ps.take k).map rdV).length ≤ 40 by simp; omega)
        go_wp2_with (first
          | (go_at_call 16; refine (implReadDecimal (nth ps k) (by have := hps k hkl; omega) _ (Hl.out.toLaidV.keep (hq.out.bel))).mono ?_; rintro e w2 ⟨rfl, hb2⟩; have hq2 := hq.out.keep OI.ok OSt.ok hb2; obtain ⟨So, ho, hp⟩ := hq2.pushL OI.ok OSt.ok; have Ho := Lib.hid ho; have Hp := Lib.hid hp; clear ho hp hq2)
          | (at_builtin; refine wpList_push rfl _ _ 24 rfl oI.ok Tryd.underlying24 infoI64 rfl Ho.out (T := []) (y := rdV (nth ps k)) ⟨rfl, rfl⟩ (by simp) (by have := hln.out; omega) (by have := hln.out; unfold maxLen; omega) rfl rfl ?_; intro v1 w5 S5 ho5 hn5 hS5; have hq5 := Lib.hid (Hp.out v1 w5 S5 _ ho5 hn5 hS5); clear ho5 hn5 hS5))
        go_roundw
        case rel => exact ⟨k + 1, by omega, by omega, by go_num, hto2, by rw [hsn.out]; exact hq5⟩
        case measure => (first | (simp [intOf]; done) | (simp [intOf]; omega))
    · obtain ⟨hke⟩ : Nonempty (k = ps.length) := ⟨by omega⟩
      have htk : ps.take k = ps := by rw [hke, List.take_length]
      rw [hke] at hto hk40
      rw [htk] at hq
      have hv := rl_yes hno (show (cutP s 32).length ≤ 40 by rw [← Hps.out]; exact hk40) (by rw [← Hps.out]; have := hto.out; unfold rdTo at this; rwa [List.take_length] at this)
      rw [← Hps.out] at hv
      have h1 := Lib.hid hv.1
      have h2 := Lib.hid hv.2
      have hfin := Lib.hid hq.out.fst
      clear hv hke hq htk
      go_wp2
      go_ret2
      exact ⟨_, by rw [h1.out]; rfl, by rw [h2.out]; exact hfin.out⟩

theorem specReadList (s : ByteArray) (hs : s.size ≤ 1048576) (w : World) :
    Calls Tryd.prog 17 #[.string s] w fun e w' => ∃ v, e = .returned (.tuple #[v, .bool (rlOk s)]) ∧ Fresh OI w w' v (rlV s) := by
  go_enter Tryd.func17, Tryd.ntmps17
  go_wp2_with fail
  refine (specNumbers s hs _).mono ?_
  rintro e w1 ⟨v, rfl, hf⟩
  go_wp2_with fail
  go_ret2
  exact ⟨_, rfl, hf⟩
end Go.Proofs.YthomdggbmjknnaaDoor
