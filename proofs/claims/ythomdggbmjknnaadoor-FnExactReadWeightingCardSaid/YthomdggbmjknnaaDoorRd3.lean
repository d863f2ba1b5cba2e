/- strconv.ParseInt laid at this program; impl.ReadDecimal walked. Printed by gen_rd3.py. -/
import Derived.Test.YthomdggbmjknnaaDoorRd2
import Derived.Shelf.LaysC
import Derived.Shelf.Strconv.ParseIntPublic10
namespace Go.Proofs.YthomdggbmjknnaaDoor
open Go.Shelf Go.RowKit
set_option linter.unusedVariables false

def laysC174_ren : Go.Shelf.Ren := ⟨fun | 174 => 39 | 247 => 52 | 245 => 53 | 287 => 68 | 279 => 69 | 280 => 70 | 281 => 71 | 282 => 72 | 321 => 84 | 322 => 85 | 316 => 86 | 171 => 88 | 205 => 87 | 243 => 97 | 246 => 48 | 283 => 61 | 284 => 62 | 285 => 63 | 286 => 64 | 129 => 78 | 317 => 77 | 318 => 79 | 319 => 80 | 320 => 81 | 337 => 93 | 338 => 94 | n => n, fun | 9 => 9 | 3 => 3 | 2 => 2 | 75 => 52 | 85 => 53 | 4 => 4 | 167 => 85 | 5 => 5 | 53 => 73 | 175 => 86 | 46 => 88 | 168 => 89 | 37 => 62 | 0 => 0 | 210 => 105 | 21 => 21 | 127 => 101 | 145 => 117 | 143 => 115 | 171 => 72 | 173 => 76 | 212 => 96 | 51 => 97 | 20 => 20 | 213 => 98 | 232 => 118 | 233 => 119 | 80 => 84 | n => n, fun | 15 => 1 | 16 => 2 | 17 => 0 | 18 => 4 | 19 => 5 | n => n⟩
theorem laysC174 : Go.Proofs.LaysC.n174 Tryd.prog laysC174_ren :=
  { mixed := by kernel_rfl,
    f129 := Tryd.func78.trans (congrArg some (by kernel_rfl)),
    f171 := Tryd.func88.trans (congrArg some (by kernel_rfl)),
    f174 := Tryd.func39.trans (congrArg some (by kernel_rfl)),
    f205 := Tryd.func87.trans (congrArg some (by kernel_rfl)),
    f243 := Tryd.func97.trans (congrArg some (by kernel_rfl)),
    f245 := Tryd.func53.trans (congrArg some (by kernel_rfl)),
    f246 := Tryd.func48.trans (congrArg some (by kernel_rfl)),
    f247 := Tryd.func52.trans (congrArg some (by kernel_rfl)),
    f279 := Tryd.func69.trans (congrArg some (by kernel_rfl)),
    f280 := Tryd.func70.trans (congrArg some (by kernel_rfl)),
    f281 := Tryd.func71.trans (congrArg some (by kernel_rfl)),
    f282 := Tryd.func72.trans (congrArg some (by kernel_rfl)),
    f283 := Tryd.func61.trans (congrArg some (by kernel_rfl)),
    f284 := Tryd.func62.trans (congrArg some (by kernel_rfl)),
    f285 := Tryd.func63.trans (congrArg some (by kernel_rfl)),
    f286 := Tryd.func64.trans (congrArg some (by kernel_rfl)),
    f287 := Tryd.func68.trans (congrArg some (by kernel_rfl)),
    f316 := Tryd.func86.trans (congrArg some (by kernel_rfl)),
    f317 := Tryd.func77.trans (congrArg some (by kernel_rfl)),
    f318 := Tryd.func79.trans (congrArg some (by kernel_rfl)),
    f319 := Tryd.func80.trans (congrArg some (by kernel_rfl)),
    f320 := Tryd.func81.trans (congrArg some (by kernel_rfl)),
    f321 := Tryd.func84.trans (congrArg some (by kernel_rfl)),
    f322 := Tryd.func85.trans (congrArg some (by kernel_rfl)),
    f337 := Tryd.func93.trans (congrArg some (by kernel_rfl)),
    f338 := Tryd.func94.trans (congrArg some (by kernel_rfl)),
    t0 := Tryd.underlying0,
    a0 := Tryd.isAgg0,
    z0 := Tryd.sizeOf0,
    v0 := Tryd.zeroValue0,
    t2 := Tryd.underlying2,
    a2 := Tryd.isAgg2,
    z2 := Tryd.sizeOf2,
    v2 := Tryd.zeroValue2,
    t3 := Tryd.underlying3,
    a3 := Tryd.isAgg3,
    z3 := Tryd.sizeOf3,
    v3 := Tryd.zeroValue3,
    t4 := Tryd.underlying4,
    a4 := Tryd.isAgg4,
    z4 := Tryd.sizeOf4,
    v4 := Tryd.zeroValue4,
    t5 := Tryd.underlying5,
    a5 := Tryd.isAgg5,
    z5 := Tryd.sizeOf5,
    v5 := Tryd.zeroValue5,
    t9 := Tryd.underlying9,
    a9 := Tryd.isAgg9,
    z9 := Tryd.sizeOf9,
    v9 := Tryd.zeroValue9,
    t20 := Tryd.underlying20,
    a20 := Tryd.isAgg20,
    z20 := Tryd.sizeOf20,
    v20 := Tryd.zeroValue20,
    t21 := Tryd.underlying21,
    a21 := Tryd.isAgg21,
    z21 := Tryd.sizeOf21,
    v21 := Tryd.zeroValue21,
    t37 := Tryd.underlying62,
    a37 := Tryd.isAgg62,
    z37 := Tryd.sizeOf62,
    v37 := Tryd.zeroValue62,
    t46 := Tryd.underlying88,
    a46 := Tryd.isAgg88,
    z46 := Tryd.sizeOf88,
    v46 := Tryd.zeroValue88,
    t51 := Tryd.underlying97,
    a51 := Tryd.isAgg97,
    z51 := Tryd.sizeOf97,
    v51 := Tryd.zeroValue97,
    t53 := Tryd.underlying73,
    a53 := Tryd.isAgg73,
    z53 := Tryd.sizeOf73,
    v53 := Tryd.zeroValue73,
    t75 := Tryd.underlying52,
    a75 := Tryd.isAgg52,
    z75 := Tryd.sizeOf52,
    v75 := Tryd.zeroValue52,
    t85 := Tryd.underlying53,
    a85 := Tryd.isAgg53,
    z85 := Tryd.sizeOf53,
    v85 := Tryd.zeroValue53,
    t127 := Tryd.underlying101,
    a127 := Tryd.isAgg101,
    z127 := Tryd.sizeOf101,
    v127 := Tryd.zeroValue101,
    t143 := Tryd.underlying115,
    a143 := Tryd.isAgg115,
    z143 := Tryd.sizeOf115,
    v143 := Tryd.zeroValue115,
    t145 := Tryd.underlying117,
    a145 := Tryd.isAgg117,
    z145 := Tryd.sizeOf117,
    v145 := Tryd.zeroValue117,
    t167 := Tryd.underlying85,
    a167 := Tryd.isAgg85,
    z167 := Tryd.sizeOf85,
    v167 := Tryd.zeroValue85,
    t168 := Tryd.underlying89,
    a168 := Tryd.isAgg89,
    z168 := Tryd.sizeOf89,
    v168 := Tryd.zeroValue89,
    t171 := Tryd.underlying72,
    a171 := Tryd.isAgg72,
    z171 := Tryd.sizeOf72,
    v171 := Tryd.zeroValue72,
    t173 := Tryd.underlying76,
    a173 := Tryd.isAgg76,
    z173 := Tryd.sizeOf76,
    v173 := Tryd.zeroValue76,
    t175 := Tryd.underlying86,
    a175 := Tryd.isAgg86,
    z175 := Tryd.sizeOf86,
    v175 := Tryd.zeroValue86,
    t210 := Tryd.underlying105,
    a210 := Tryd.isAgg105,
    z210 := Tryd.sizeOf105,
    v210 := Tryd.zeroValue105,
    t212 := Tryd.underlying96,
    a212 := Tryd.isAgg96,
    z212 := Tryd.sizeOf96,
    v212 := Tryd.zeroValue96,
    t213 := Tryd.underlying98,
    a213 := Tryd.isAgg98,
    z213 := Tryd.sizeOf98,
    t232 := Tryd.underlying118,
    a232 := Tryd.isAgg118,
    z232 := Tryd.sizeOf118,
    v232 := Tryd.zeroValue118,
    t233 := Tryd.underlying119,
    a233 := Tryd.isAgg119,
    z233 := Tryd.sizeOf119,
    v233 := Tryd.zeroValue119,
    g15 := by kernel_rfl,
    g16 := by kernel_rfl,
    g17 := by kernel_rfl,
    g18 := by kernel_rfl,
    g19 := by kernel_rfl,
    t80 := Tryd.underlying84,
    a80 := Tryd.isAgg84,
    z80 := Tryd.sizeOf84,
    v80 := Tryd.zeroValue84,
    i0 := by kernel_rfl,
    i2 := by kernel_rfl,
    i3 := by kernel_rfl,
    i4 := by kernel_rfl,
    i5 := by kernel_rfl,
    i9 := by kernel_rfl,
    i20 := by kernel_rfl,
    i21 := by kernel_rfl,
    i37 := by kernel_rfl,
    i46 := by kernel_rfl,
    i51 := by kernel_rfl,
    i53 := by kernel_rfl,
    i75 := by kernel_rfl,
    i80 := by kernel_rfl,
    i85 := by kernel_rfl,
    i127 := by kernel_rfl,
    i143 := by kernel_rfl,
    i145 := by kernel_rfl,
    i167 := by kernel_rfl,
    i168 := by kernel_rfl,
    i171 := by kernel_rfl,
    i173 := by kernel_rfl,
    i175 := by kernel_rfl,
    i210 := by kernel_rfl,
    i212 := by kernel_rfl,
    i232 := by kernel_rfl,
    i233 := by kernel_rfl,
    m15 := by kernel_rfl,
    m16 := by kernel_rfl,
    m17 := by kernel_rfl,
    m18 := by kernel_rfl,
    m19 := by kernel_rfl,
    c0 := by kernel_rfl,
    c2 := by kernel_rfl,
    c3 := by kernel_rfl,
    c4 := by kernel_rfl,
    c5 := by kernel_rfl,
    c9 := by kernel_rfl,
    c20 := by kernel_rfl,
    c21 := by kernel_rfl,
    c37 := by kernel_rfl,
    c46 := by kernel_rfl,
    c51 := by kernel_rfl,
    c53 := by kernel_rfl,
    c75 := by kernel_rfl,
    c80 := by kernel_rfl,
    c85 := by kernel_rfl,
    c127 := by kernel_rfl,
    c143 := by kernel_rfl,
    c145 := by kernel_rfl,
    c167 := by kernel_rfl,
    c168 := by kernel_rfl,
    c171 := by kernel_rfl,
    c173 := by kernel_rfl,
    c175 := by kernel_rfl,
    c210 := by kernel_rfl,
    c212 := by kernel_rfl,
    c213 := by kernel_rfl,
    c232 := by kernel_rfl,
    c233 := by kernel_rfl }

/-- What the library's variables hold. -/
structure LaidV (w : World) : Prop where
  tab : Lib.TabIs Tryd.prog w "internal/strconv.uint64pow10" .u64 Lib.pow10Tab
  syn : ∃ te pe, w.cell? ⟨1, 0, none⟩ = some (.iface te pe)
  rng : ∃ te pe, w.cell? ⟨2, 0, none⟩ = some (.iface te pe)
theorem LaidV.keep {w w' : World} (h : LaidV w) (hb : Below w.heap.size w w') : LaidV w' := by
  obtain ⟨h1, ⟨t1, p1, h2⟩, ⟨t2, p2, h3⟩⟩ := h
  exact ⟨tabBelow h1 hb, ⟨t1, p1, (hb.cell (show (⟨1, 0, none⟩ : Addr).block < w.heap.size from Lib.lt_of_cell h2)).trans h2⟩, ⟨t2, p2, (hb.cell (show (⟨2, 0, none⟩ : Addr).block < w.heap.size from Lib.lt_of_cell h3)).trans h3⟩⟩

set_option maxHeartbeats 3200000 in
set_option maxRecDepth 100000 in
theorem implReadDecimal (s : ByteArray) (hs : s.size ≤ 1048576) (w : World) (hl : LaidV w) :
    Calls Tryd.prog 16 #[.string s] w fun e w' => e = .returned (.tuple #[.int .i64 (rdV s), .bool (rdB s)]) ∧ Below w.heap.size w w' := by
  rcases hE : Lib.parseIntB 64 s.data.toList with v | _ | _
  · obtain ⟨hB, hV⟩ := rdB_ok hE
    have HB := Lib.hid hB
    have HV := Lib.hid hV
    have hC := Lib.hid (Any.strconv_ParseInt_10_at64_ok laysC174 s (by omega) v hE w)
    have Hl := Lib.hid hl
    clear hE hB hV hl
    cases hrg : inB v (-1000000000000000) 1000000000000000
    · have hv := Lib.hid (show rdB s = false by rw [HB.out, hrg]; rfl)
      have hz := Lib.hid (rdV_no hv.out)
      go_enter Tryd.func16, Tryd.ntmps16
      go_wp2_with fail
      refine (Calls.mono hC.out ?_)
      rintro e w1 ⟨rfl, hw⟩
      have Hb := Lib.hid (show Below w.heap.size w w1 by
        rcases hw with rfl | ⟨t, rfl⟩
        · exact Below.refl _ _
        · exact Lib.bytesWorld_below _ _ _)
      clear hw hC
      go_wp2_with (go_at_call 36; refine (implIn _ _ _ _ (by assumption) _).mono ?_; rintro e w' ⟨rfl, rfl⟩)
      go_ret2
      exact ⟨by rw [hv.out, hz.out]; rfl, Hb.out⟩
    · have hd := inB_true.1 hrg
      by_cases heq : dS v = s
      · have hv := Lib.hid (show rdB s = true by rw [HB.out, hrg, heq]; simp)
        have hz := Lib.hid (HV.out hv.out)
        have hs1 : (Lib.itoa v == s.toList) = true := (itoaB _ _).trans (by rw [heq]; simp)
        clear heq
        go_enter Tryd.func16, Tryd.ntmps16
        go_wp2_with fail
        refine (Calls.mono hC.out ?_)
        rintro e w1 ⟨rfl, hw⟩
        have Hb := Lib.hid (show Below w.heap.size w w1 by
          rcases hw with rfl | ⟨t, rfl⟩
          · exact Below.refl _ _
          · exact Lib.bytesWorld_below _ _ _)
        have Hl1 := Lib.hid (Hl.out.keep Hb.out)
        clear hw hC
        go_wp2_with (first
          | (go_at_call 36; refine (implIn _ _ _ _ (by assumption) _).mono ?_; rintro e w' ⟨rfl, rfl⟩)
          | (go_at_call 10; refine (implDecimal _ (by omega) (by omega) _ Hl1.out.tab).mono ?_; rintro e w2 ⟨rfl, hb2⟩))
        go_ret2
        exact ⟨by rw [hv.out, hz.out]; rfl, Hb.out.trans (hb2.mono Hb.out.size)⟩
      · have hv := Lib.hid (show rdB s = false by rw [HB.out, hrg]; simpa using heq)
        have hz := Lib.hid (rdV_no hv.out)
        have hs1 : (Lib.itoa v == s.toList) = false := (itoaB _ _).trans (by simpa using heq)
        clear heq
        go_enter Tryd.func16, Tryd.ntmps16
        go_wp2_with fail
        refine (Calls.mono hC.out ?_)
        rintro e w1 ⟨rfl, hw⟩
        have Hb := Lib.hid (show Below w.heap.size w w1 by
          rcases hw with rfl | ⟨t, rfl⟩
          · exact Below.refl _ _
          · exact Lib.bytesWorld_below _ _ _)
        have Hl1 := Lib.hid (Hl.out.keep Hb.out)
        clear hw hC
        go_wp2_with (first
          | (go_at_call 36; refine (implIn _ _ _ _ (by assumption) _).mono ?_; rintro e w' ⟨rfl, rfl⟩)
          | (go_at_call 10; refine (implDecimal _ (by omega) (by omega) _ Hl1.out.tab).mono ?_; rintro e w2 ⟨rfl, hb2⟩))
        go_ret2
        exact ⟨by rw [hv.out, hz.out]; rfl, Hb.out.trans (hb2.mono Hb.out.size)⟩
  · have hv := Lib.hid (rdB_bad (s := s) (fun v h => by rw [hE] at h; cases h))
    have hz := Lib.hid (rdV_no hv.out)
    obtain ⟨t1, p1, h1⟩ := hl.syn
    have hC := Lib.hid (Any.strconv_ParseInt_10_at64_syntax laysC174 s (by omega) hE _ w h1 (Or.inr ⟨t1, p1, rfl⟩))
    clear hE h1 hl
    go_enter Tryd.func16, Tryd.ntmps16
    go_wp2_with fail
    refine (Calls.mono hC.out ?_)
    rintro e w1 ⟨N, rfl, g1, g2, g3⟩
    have Hb := Lib.hid g3
    clear g1 g2 g3 hC
    go_wp2
    go_ret2
    exact ⟨by rw [hv.out, hz.out]; rfl, Hb.out⟩
  · have hv := Lib.hid (rdB_bad (s := s) (fun v h => by rw [hE] at h; cases h))
    have hz := Lib.hid (rdV_no hv.out)
    obtain ⟨t1, p1, h1⟩ := hl.rng
    have hC := Lib.hid (Any.strconv_ParseInt_10_at64_range laysC174 s (by omega) hE _ w h1 (Or.inr ⟨t1, p1, rfl⟩))
    clear hE h1 hl
    go_enter Tryd.func16, Tryd.ntmps16
    go_wp2_with fail
    refine (Calls.mono hC.out ?_)
    rintro e w1 ⟨N, rfl, g1, g2, g3⟩
    have Hb := Lib.hid g3
    clear g1 g2 g3 hC
    go_wp2
    go_ret2
    exact ⟨by rw [hv.out, hz.out]; rfl, Hb.out⟩
theorem specReadDecimal (s : ByteArray) (hs : s.size ≤ maxLen) (w : World) :
    Calls Tryd.prog 15 #[.string s] w fun e w' => e = .returned (.tuple #[.int .i64 (rdV s), .bool (rdB s)]) ∧ Below w.heap.size w w' := by
  go_enter Tryd.func15, Tryd.ntmps15
  go_wp2_with fail
  refine (specValue s hs _).mono ?_
  rintro e w1 ⟨rfl, hb⟩
  go_wp2_with fail
  go_ret2
  exact ⟨rfl, hb⟩
theorem lawExactReadDecimal (s : ByteArray) (hs : s.size ≤ maxLen) (w : World) (hl : LaidV w) :
    Calls Tryd.prog 5 #[.string s] w fun e w' => e = .returned (.bool true) ∧ Below w.heap.size w w' := by
  have Hl := Lib.hid hl
  have Hs := Lib.hid hs
  have hs' := hs
  unfold maxLen at hs'
  clear hl hs
  by_cases hbig : 1048576 < s.size
  · go_enter Tryd.func5, Tryd.ntmps5
    go_wp2
    go_ret
    exact ⟨rfl, Below.refl _ _⟩
  · go_enter Tryd.func5, Tryd.ntmps5
    go_wp2_with fail
    refine (specReadDecimal s Hs.out _).mono ?_
    rintro e w1 ⟨rfl, hb⟩
    have Hb := Lib.hid hb
    have hsz := hb.size
    clear hb
    go_wp2_with fail
    refine (implReadDecimal s (by omega) _ (Hl.out.keep Hb.out)).mono ?_
    rintro e w2 ⟨rfl, hb2⟩
    go_wp2
    go_ret
    exact ⟨rfl, Hb.out.trans (hb2.mono hsz)⟩
end Go.Proofs.YthomdggbmjknnaaDoor
