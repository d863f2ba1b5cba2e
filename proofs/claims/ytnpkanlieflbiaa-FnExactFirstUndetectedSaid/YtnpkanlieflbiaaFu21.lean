/- The first undetected error: impl's firstAt, walked. -/
import Derived.Test.YtnpkanlieflbiaaFu17
import Derived.Test.YtnpkanlieflbiaaFu19
import Derived.Test.YtnpkanlieflbiaaFu13
namespace Go.Proofs.Ytnpkanlieflbiaa
open Go.RowKit Go.Maps
set_option linter.unusedVariables false

theorem six_end (w : World) (A Z C D G I : Obj) : ((((((w.alloc A).alloc Z).alloc C).alloc D).alloc G).alloc I).heap[w.heap.size]? = some A ∧ ((((((w.alloc A).alloc Z).alloc C).alloc D).alloc G).alloc I).heap[w.heap.size + 1]? = some Z ∧ ((((((w.alloc A).alloc Z).alloc C).alloc D).alloc G).alloc I).heap[w.heap.size + 1 + 1]? = some C ∧
    ((((((w.alloc A).alloc Z).alloc C).alloc D).alloc G).alloc I).heap[w.heap.size + 1 + 1 + 1]? = some D ∧ ((((((w.alloc A).alloc Z).alloc C).alloc D).alloc G).alloc I).heap[w.heap.size + 1 + 1 + 1 + 1]? = some G ∧ ((((((w.alloc A).alloc Z).alloc C).alloc D).alloc G).alloc I).heap[w.heap.size + 1 + 1 + 1 + 1 + 1]? = some I ∧
    ((((((w.alloc A).alloc Z).alloc C).alloc D).alloc G).alloc I).heap.size = w.heap.size + 6 ∧ Below w.heap.size w ((((((w.alloc A).alloc Z).alloc C).alloc D).alloc G).alloc I) := by
  obtain ⟨e0, e1, e2, e3, e5, e6⟩ := Kp.four w A Z C D
  have g1 := fun k hk => Below.heap_alloc ((((w.alloc A).alloc Z).alloc C).alloc D) G k hk
  have g2 := fun k hk => Below.heap_alloc (((((w.alloc A).alloc Z).alloc C).alloc D).alloc G) I k hk
  have n1 := heap_alloc_new ((((w.alloc A).alloc Z).alloc C).alloc D) G
  have n2 := heap_alloc_new (((((w.alloc A).alloc Z).alloc C).alloc D).alloc G) I
  have z1 := alloc_size ((((w.alloc A).alloc Z).alloc C).alloc D) G
  have z2 := alloc_size (((((w.alloc A).alloc Z).alloc C).alloc D).alloc G) I
  rw [e5] at n1
  rw [z1, e5] at n2
  refine ⟨?_, ?_, ?_, ?_, ?_, n2, by omega, ?_⟩
  · exact (g2 _ (by omega)).trans ((g1 _ (by omega)).trans e0)
  · exact (g2 _ (by omega)).trans ((g1 _ (by omega)).trans e1)
  · exact (g2 _ (by omega)).trans ((g1 _ (by omega)).trans e2)
  · exact (g2 _ (by omega)).trans ((g1 _ (by omega)).trans e3)
  · exact (g2 _ (by omega)).trans n1
  · exact (e6.alloc (by omega) _).alloc (by omega) _

set_option maxHeartbeats 6400000 in
set_option maxRecDepth 100000 in
theorem implFirstAt : FirstAtC := by
  intro B bx x w kind p hbox hB hbx hv hko hp
  have hnat := hv.nat
  have hel := errLen_bd kind
  have Hbox := Lib.hid hbox
  have Hko := Lib.hid hko
  obtain ⟨E, hE⟩ : ∃ e, e = errLen kind := ⟨_, rfl⟩
  have HE := Lib.hid hE
  have hEc := Lib.hid (fun W => implErrLen kind W)
  rw [← hE] at hel hp hEc
  obtain ⟨PN, hPN⟩ : ∃ n, n = p + E := ⟨_, rfl⟩
  have HPN := Lib.hid hPN
  have hPw : IntKind.i64.wrap ((p : Int) + (E : Int)) = (PN : Int) := by rw [hPN, Int.natCast_add]; exact IntWalk.i64_in _ (by omega)
  clear hE hbox hko
  have hmm := @run_makeMap Try.prog
  go_enter Try.func106, Try.ntmps106
  go_wp2_with fail
  refine (Calls.mono (hEc.out _) ?_)
  rintro e w' ⟨rfl, rfl⟩
  go_upto_region 3 with fail
  obtain ⟨Wb, hWb⟩ : ∃ W, W = (((((w.alloc (.cells #[.pointer (some ⟨bx, 0, none⟩)] 114)).alloc (.cells #[.int .i64 kind] 2)).alloc (.cells #[.int .i64 p] 3)).alloc (.cells #[.int .i64 E] 3)).alloc (.cells #[] 129)).alloc (.cells #[.slice (some ⟨w.heap.size + 1 + 1 + 1 + 1, 0, none⟩) 0 0] 154) := ⟨_, rfl⟩
  rw [← hWb]
  have HS := six_end w (.cells #[.pointer (some ⟨bx, 0, none⟩)] 114) (.cells #[.int .i64 kind] 2) (.cells #[.int .i64 p] 3) (.cells #[.int .i64 E] 3) (.cells #[] 129) (.cells #[.slice (some ⟨w.heap.size + 1 + 1 + 1 + 1, 0, none⟩) 0 0] 154)
  rw [← hWb] at HS
  clear hWb
  generalize q5 : w.heap.size + 1 + 1 + 1 + 1 + 1 = b5 at HS ⊢
  generalize q4 : w.heap.size + 1 + 1 + 1 + 1 = b4 at HS ⊢
  generalize q3 : w.heap.size + 1 + 1 + 1 = b3 at HS ⊢
  generalize q2 : w.heap.size + 1 + 1 = b2 at HS ⊢
  generalize q1 : w.heap.size + 1 = b1 at HS ⊢
  generalize q0 : w.heap.size = b0 at HS ⊢
  obtain ⟨s0, s1, s2, s3, s4, s5, s6, s7⟩ := HS
  have Hq := Lib.hid (show w.heap.size = b0 ∧ b1 = b0 + 1 ∧ b2 = b0 + 2 ∧ b3 = b0 + 3 ∧ b4 = b0 + 4 ∧ b5 = b0 + 5 ∧ Wb.heap.size = b0 + 6 from by omega)
  have hbw := Lib.hid (show Below w.heap.size w Wb from by rw [q0]; exact s7)
  have Hs0 := Lib.hid s0; have Hs1 := Lib.hid s1; have Hs2 := Lib.hid s2; have Hs3 := Lib.hid s3
  have hbx1 := Lib.hid (Hbox.out.below hbw.out hB hbx)
  have c3 := heap_cell s0 (i := 0) rfl
  obtain ⟨a4, c4, a5, c5, g0, g1, g2, g3, g4, g5, -, -, -, hc5⟩ := hbx1.out.cells
  obtain ⟨NX, hNX⟩ : ∃ n, n = x.places.length := ⟨_, rfl⟩
  rw [← hNX] at g5 hc5
  have HNX := Lib.hid (show NX = x.n from hNX)
  have hNX20 : NX ≤ 20 := by have : x.places.length ≤ 20 := hnat.2.2.2.2.2; omega
  have hPX : PN ≤ NX := by have : PN ≤ x.places.length := by rw [hPN]; exact hp
                           omega
  have HB := Lib.hid (show B ≤ b0 ∧ bx < b0 from ⟨by omega, by omega⟩)
  have hg0 := Lib.hid (show OG Wb (.slice (some ⟨b4, 0, none⟩) 0 0) (grsL x PN 0) [b4] ∧ (∀ j ∈ [b4], j = b4 ∨ Wb.heap.size ≤ j) from ⟨.inr ⟨b4, 0, #[], [], rfl, s4, rfl, Nat.le_refl _, by unfold maxLen; omega, by simp, by simp, rfl, fun i hi => absurd hi (Nat.not_lt_zero _)⟩, by simp⟩)
  have hb50 := Lib.hid s5
  have hkp := Lib.hid (show ∀ wr, Only [b4, b5] Wb wr → ∀ k, k < b0 + 4 → wr.heap[k]? = Wb.heap[k]? from fun wr ho k hk => ho.block k (by have := Hq.out; omega) (by have := Hq.out; simp; omega))
  unfold maxLen at hc5
  clear g0 g1 g2 g3 g4 s0 s1 s2 s3 s4 s5 s6 s7 q0 q1 q2 q3 q4 q5 hPN hNX
  go_wp2
  go_loopw [30] (fun kv wr => ∃ (k : Nat) (ab : Option Addr) (nb cb : Nat) (S : List Nat), kv = .int .i64 k ∧ k ≤ NX + 1 ∧ Hid (OG wr (.slice ab nb cb) (grsL x PN k) S ∧ (∀ j ∈ S, j = b4 ∨ Wb.heap.size ≤ j)) ∧ Hid (wr.heap[b5]? = some (.cells #[.slice ab nb cb] 154 (0, 0))) ∧ Hid (Only [b4, b5] Wb wr)) (fun kv _ => NX + 1 - (intOf kv).toNat)
  case atStart => exact ⟨0, _, _, _, _, rfl, Nat.zero_le _, hg0, hb50, Lib.hid (Only.refl _ _)⟩
  case round =>
    clear hg0 hb50 g5 c3
    obtain ⟨k, ab, nb, cb, S, rfl, hk, hO, hb5, hon⟩ := hrel
    obtain ⟨W2, rfl⟩ : ∃ W, W = wr := ⟨_, rfl⟩
    by_cases hlt : k < NX + 1
    · have hk4 := hkp.out W2 hon.out
      have d5 := heap_cell hb5.out (i := 0) rfl
      have d2 := heap_cell ((hk4 b2 (by have := Hq.out; omega)).trans Hs2.out) (i := 0) rfl
      have d3 := heap_cell ((hk4 b3 (by have := Hq.out; omega)).trans Hs3.out) (i := 0) rfl
      have d0 := heap_cell ((hk4 b0 (by have := Hq.out; omega)).trans Hs0.out) (i := 0) rfl
      have hlen := Lib.hid (show (grsL x PN k).length ≤ 20 by rw [grsL_len]; omega)
      have hb5S := Lib.hid (show b5 ∉ S from fun hm => by
        have h1 := hO.out.2 _ hm
        have := Hq.out
        omega)
      have hl5 := Lib.hid (heap_lt hb5.out)
      have hdone := Lib.hid (fun (w3 w9 : World) (a9 : Option Addr) (n9 c9 : Nat) (S9 T : List Nat) (y : List (List Int)) (hb : Below W2.heap.size W2 w3) (hy : grsL x PN (k + 1) = grsL x PN k ++ [y]) (h1 : OG w9 (.slice a9 n9 c9) (grsL x PN k ++ [y]) S9) (h2 : Only S w3 w9) (h3 : ∀ j ∈ S9, j ∈ S ∨ j ∈ T ∨ w3.heap.size ≤ j) (hT : ∀ j ∈ T, W2.heap.size ≤ j) =>
        (show (OG (w9.setCell ⟨b5, 0, none⟩ (.slice a9 n9 c9)) (.slice a9 n9 c9) (grsL x PN (k + 1)) S9 ∧ (∀ j ∈ S9, j = b4 ∨ Wb.heap.size ≤ j)) ∧ (w9.setCell ⟨b5, 0, none⟩ (.slice a9 n9 c9)).heap[b5]? = some (.cells #[.slice a9 n9 c9] 154 (0, 0)) ∧ Only [b4, b5] Wb (w9.setCell ⟨b5, 0, none⟩ (.slice a9 n9 c9)) from by
          have hq := Hq.out
          have hz := hon.out.size
          have hz3 := hb.size
          have hl := hl5.out
          have hS9 : ∀ j ∈ S9, (j = b4 ∨ Wb.heap.size ≤ j) ∧ j ≠ b5 := fun j hj => by
            rcases h3 j hj with h | h | h
            · exact ⟨hO.out.2 j h, fun e => hb5S.out (e ▸ h)⟩
            · have := hT j h
              exact ⟨.inr (by omega), by omega⟩
            · exact ⟨.inr (by omega), by omega⟩
          refine ⟨⟨by rw [hy]; exact OG.ok.keep h1 fun j hj => heap_setCell_other w9 _ j _ (hS9 j hj).2, fun j hj => (hS9 j hj).1⟩, heap_setCell_same w9 _ 0 _ _ _ ((h2.block _ (by omega) hb5S.out).trans ((hb.block _ hl).trans hb5.out)), ?_⟩
          refine Only.put (Only.trans' (hon.out.trans (show Only _ W2 w3 from ⟨hb.os, hb.tape, hb.output, hb.size, fun k hk _ => hb.block k hk⟩)) h2 fun j hj => ?_) (by simp) 0 _
          rcases hO.out.2 j hj with h | h
          · exact .inl (by simp [h])
          · exact .inr h))
      by_cases hkP : k < PN
      · have hgs := Lib.hid (show grsL x PN (k + 1) = grsL x PN k ++ [[]] by rw [grsL_succ, if_pos hkP])
        clear d0
        go_wp2_with (first
          | (at_builtin; refine wpList_push rfl (.tmp 38) (.tmp 39) 154 rfl OII.ok Try.underlying154 infoGr rfl hO.out.1 (u := .slice none 0 0) (y := []) (T := []) (own_nil _) (by simp) (by have := hlen.out; omega) (by have := hlen.out; unfold maxLen; omega) rfl rfl ?_; intro v9 w9 S9 h1 h2 h3; obtain ⟨a9, n9, c9, rfl⟩ := h1.isSlice; have e14 := heap_cell ((h2.block _ hl5.out hb5S.out).trans hb5.out) (i := 0) rfl; have e15 := frozen_at ((h2.block _ hl5.out hb5S.out).trans hb5.out) 0; have H9 := Lib.hid (show _ ∧ _ ∧ _ from ⟨h1, h2, h3⟩); clear h1 h2 h3)
          | fail)
        have hd9 := Lib.hid (hdone.out W2 w9 a9 n9 c9 S9 [] [] (Below.refl _ _) hgs.out H9.out.1 H9.out.2.1 H9.out.2.2 (by simp))
        refine ⟨⟨k + 1, a9, n9, c9, S9, by go_num, by omega, Lib.hid hd9.out.1, Lib.hid hd9.out.2.1, Lib.hid hd9.out.2.2⟩, ?_⟩
        simp [intOf]; omega
      · have hgs := Lib.hid (show grsL x PN (k + 1) = grsL x PN k ++ [gridL x.S x.S (bothV x k)] by rw [grsL_succ, if_neg hkP])
        have hbb : Below Wb.heap.size Wb Wb := Below.refl _ _
        have hboxW := Lib.hid (show BoxC (· < B) W2 bx x from hbx1.out.keep fun j hj => hk4 j (by have := HB.out; rcases hj with hj | hj <;> omega))
        have hzW := Lib.hid (show B ≤ W2.heap.size ∧ bx < W2.heap.size from by have := HB.out; have := Hq.out; have := hon.out.size; omega)
        have hcl := Lib.hid (fun (W : World) (hb : Below W2.heap.size W2 W) => implBoth (hboxW.out.below hb hzW.out.1 hzW.out.2) (by have := hb.size; have := hzW.out.1; omega) (by have := hb.size; have := hzW.out.2; omega) hv k (by have := HNX.out; omega))
        have hsc := Lib.hid (fun (W : World) (hb : Below W2.heap.size W2 W) => (show W.cell? ⟨b5, 0, none⟩ = some (.slice ab nb cb) ∧ W.cell? ⟨b0, 0, none⟩ = some (.pointer (some ⟨bx, 0, none⟩)) from ⟨(hb.cell (p := ⟨b5, 0, none⟩) (World.block_lt_of_cell? W2 _ d5)).trans d5, (hb.cell (p := ⟨b0, 0, none⟩) (World.block_lt_of_cell? W2 _ d0)).trans d0⟩))
        go_upto_region 8 with fail
        have hS0 := hsc.out W2.drew (Below.refl W2.heap.size W2).drew
        refine wp_region_float 3 (fun w' => w'.cell? ⟨b5, 0, none⟩ = some (.slice ab nb cb) ∧ w'.cell? ⟨b0, 0, none⟩ = some (.pointer (some ⟨bx, 0, none⟩))) (by kernel_rfl) (by kernel_rfl) hS0 ?_
        clear hS0
        intro hS0
        simp only [List.take_succ_cons, List.take_zero, List.drop_succ_cons, List.drop_zero]
        iterate 3 (refine wpReads_cons _ (by rfl) (by intro w' hSw; (try dsimp only at hSw); go_simp; try (with_reducible rfl)) ?_; try simp only [Act.put, List.setIfInBounds_toArray, List.set_cons_zero, List.set_cons_succ])
        refine wpReads_nil ?_
        refine wpTail_cons fun K hK => ?_
        go_simp
        refine (Calls.mono (hcl.out _ (Below.refl W2.heap.size W2).drew) ?_)
        rintro e w3 ⟨v7, rfl, hf7⟩
        obtain ⟨g7, c7, rfl⟩ := hf7.shape (by rw [gridL_len]; exact hnat.2.1.1)
        obtain ⟨T7, hr7, hT7, hb7⟩ := hf7
        have hb23 := Lib.hid (show Below W2.heap.size W2 w3 from (Below.refl W2.heap.size W2).drew.trans hb7)
        have Hr7 := Lib.hid hr7
        have HT7 := Lib.hid (show ∀ j ∈ T7, W2.heap.size ≤ j from hT7)
        have hO3 := Lib.hid (show OG w3 (.slice ab nb cb) (grsL x PN k) S from OG.ok.keep hO.out.1 fun j hj => hb23.out.block j (OG.ok.lt hO.out.1 j hj))
        have hdis := Lib.hid (show ∀ j ∈ T7, j ∉ S from fun j hj hm => by have h1 := OG.ok.lt hO.out.1 j hm; have h2 := HT7.out j hj; omega)
        clear hr7 hT7 hb7
        refine hK.out _ _ (hsc.out _ hb23.out) ?_
        clear hK K hS0
        try simp only [Act.put, List.setIfInBounds_toArray, List.set_cons_zero, List.set_cons_succ]
        refine wpTail_cons fun K hK => ?_
        go_simp
        refine hK.out _ _ (hsc.out _ (hb23.out.alloc hb23.out.size _)) ?_
        clear hK K
        try simp only [Act.put, List.setIfInBounds_toArray, List.set_cons_zero, List.set_cons_succ]
        refine wpTail_cons fun K hK => ?_
        refine step_push rfl _ _ 154 rfl OII.ok Try.underlying154 infoGr rfl w3 hO3.out (gridL x.S x.S (bothV x k)) T7 Hr7.out hdis.out (by have := hlen.out; omega) (by have := hlen.out; unfold maxLen; omega) rfl rfl rfl ?_
        intro v9 w9 S9 h1 h2 h3
        obtain ⟨a9, n9, c9, rfl⟩ := h1.isSlice
        have hb59 := (h2.block _ (Nat.lt_of_lt_of_le hl5.out hb23.out.size) hb5S.out).trans ((hb23.out.block _ hl5.out).trans hb5.out)
        have e14 := heap_cell hb59 (i := 0) rfl
        have e15 := frozen_at hb59 0
        have hb0S : b0 ∉ S := fun hm => by
          have h4 := hO.out.2 _ hm
          have := Hq.out
          omega
        have e16 : w9.cell? ⟨b0, 0, none⟩ = _ := (cell_keep (h2.block _ (by have h5 := World.block_lt_of_cell? _ _ (hsc.out _ hb23.out).2; exact h5) hb0S)).trans (hsc.out _ hb23.out).2
        have H9 := Lib.hid (show _ ∧ _ ∧ _ from ⟨h1, h2, h3⟩)
        clear h1 h2 h3 hb59
        refine hK.out _ _ ⟨e14, e16⟩ ?_
        clear hK K
        try simp only [Act.put, List.setIfInBounds_toArray, List.set_cons_zero, List.set_cons_succ]
        refine wpTail_one ?_
        go_wp2_with fail
        refine NoPanic.normal ?_
        go_wp2
        have hd9 := Lib.hid (hdone.out w3 w9 a9 n9 c9 S9 T7 _ hb23.out hgs.out H9.out.1 H9.out.2.1 H9.out.2.2 HT7.out)
        refine ⟨⟨k + 1, a9, n9, c9, S9, by go_num, by omega, Lib.hid hd9.out.1, Lib.hid hd9.out.2.1, Lib.hid hd9.out.2.2⟩, ?_⟩
        simp [intOf]; omega
    · have hkE : k = NX + 1 := by omega
      rw [hkE] at hO
      have HkE := Lib.hid hkE
      have hk4 := hkp.out W2 hon.out
      have d2 := heap_cell ((hk4 b2 (by have := Hq.out; omega)).trans Hs2.out) (i := 0) rfl
      have hNPw : IntKind.i64.wrap ((p : Int) + 1) = (p : Int) + 1 := IntWalk.i64_in _ (by omega)
      obtain ⟨NP, hNP⟩ : ∃ n, n = p + 1 := ⟨_, rfl⟩
      have hNPc : (p : Int) + 1 = (NP : Int) := by omega
      have hmk := run_make_row' (P := Try.prog) 156 126 (.slice none 0 0) 24 Try.underlying156 infoBsl rfl .i64 .i64 NP (by omega) (by omega)
      have HNP := Lib.hid hNP
      rw [← hNPc] at hmk
      have hNP21 : NP ≤ 20 := by omega
      clear hNP hNPc
      have d2' := heap_cell ((Below.heap_alloc (W2.alloc (.map #[] 0)) (.cells #[.map (some W2.heap.size)] 155) b2 (by have := Hq.out; have := hon.out.size; rw [alloc_size]; omega)).trans ((Below.heap_alloc W2 (.map #[] 0) b2 (by have := Hq.out; have := hon.out.size; omega)).trans ((hk4 b2 (by have := Hq.out; omega)).trans Hs2.out))) (i := 0) rfl
      have Hlt := Lib.hid hlt
      clear d2 hkE hk
      go_upto_region 12 with fail
      clear hlt
      obtain ⟨W3, hW3⟩ : ∃ W, W = (((W2.alloc (.map #[] 0)).alloc (.cells #[.map (some W2.heap.size)] 155)).alloc (.cells (madeCells #[.slice none 0 0] NP) 126)).alloc (.cells #[.slice (some ⟨W2.heap.size + 1 + 1, 0, none⟩) NP NP] 156) := ⟨_, rfl⟩
      rw [← hW3]
      have HF := Kp.four W2 (.map #[] 0) (.cells #[.map (some W2.heap.size)] 155) (.cells (madeCells #[.slice none 0 0] NP) 126) (.cells #[.slice (some ⟨W2.heap.size + 1 + 1, 0, none⟩) NP NP] 156)
      rw [← hW3] at HF
      have hown0 := Own.madeR (R := OBf) ((W2.alloc (.map #[] 0)).alloc (.cells #[.map (some W2.heap.size)] 155)) 126 (z := .slice none 0 0) (x := []) (fun w => own_nil w) NP (by unfold maxLen; omega)
      have hown1 := Own.alloc OBf.ok hown0 (.cells #[.slice (some ⟨W2.heap.size + 1 + 1, 0, none⟩) NP NP] 156)
      rw [← hW3] at hown1
      have hsz2 : ((W2.alloc (.map #[] 0)).alloc (.cells #[.map (some W2.heap.size)] 155)).heap.size = W2.heap.size + 1 + 1 := by simp
      rw [hsz2] at hown1
      clear hW3 hown0 hsz2
      generalize q3 : W2.heap.size + 1 + 1 + 1 = bq at HF hown1 ⊢
      generalize q2 : W2.heap.size + 1 + 1 = gq at HF hown1 ⊢
      generalize q1 : W2.heap.size + 1 = bf at HF hown1 ⊢
      generalize q0 : W2.heap.size = bm at HF hown1 ⊢
      obtain ⟨s0, s1, s2, s3, s4, s5⟩ := HF
      have Hr := Lib.hid (show W2.heap.size = bm ∧ bf = bm + 1 ∧ gq = bm + 2 ∧ bq = bm + 3 ∧ W3.heap.size = bm + 4 ∧ b0 + 6 ≤ bm from by have := Hq.out; have := hon.out.size; omega)
      have hb23 := Lib.hid (show Below W2.heap.size W2 W3 from by rw [q0]; exact s5)
      have hxn : x.n = NX := HNX.out.symm
      have hFA3 := Lib.hid (show FA x kind p b0 b1 b2 b3 b5 bx bm (.slice ab nb cb) W3 from by
        have hq := Hq.out
        have hr := Hr.out
        have hl : ∀ k, k < b0 + 4 → W3.heap[k]? = Wb.heap[k]? := fun k hk => (hb23.out.block k (by omega)).trans (hk4 k hk)
        refine ⟨by have := HB.out; omega, heap_cell ((hl b0 (by omega)).trans Hs0.out) rfl, heap_cell ((hl b1 (by omega)).trans Hs1.out) rfl, heap_cell ((hl b2 (by omega)).trans Hs2.out) rfl, ?_, heap_cell ((hb23.out.block b5 (by omega)).trans hb5.out) rfl, ?_, ?_⟩
        · rw [← HE.out]; exact heap_cell ((hl b3 (by omega)).trans Hs3.out) rfl
        · exact (hbx1.out.keep fun j hj => hl j (by have := HB.out; rcases hj with hj | hj <;> omega)).mono fun j hj => by have := HB.out; (have hj : j < B := hj); show j < bm; omega
        · rw [← HE.out, ← HPN.out, hxn]
          exact RdIII.ok.keep (OG.leads.to _ _ _ _ (· < bm) hO.out.1 fun j hj => by have := OG.ok.lt hO.out.1 j hj; show j < bm; omega) fun j hj => hb23.out.block j (by have hj : j < bm := hj; omega))
      have hbw3 := Lib.hid (show Below w.heap.size w W3 from by
        have hq := Hq.out
        have hq2 := hon.out.size
        exact (below_only hbw.out hon.out (by omega) (by simp; omega)).trans (hb23.out.mono (by omega)))
      have hmp3 := Lib.hid (show W3.ownsMap Try.prog 2 tok bm 0 (.map []) from ⟨#[], 0, s0, ⟨by simp, MapKept.stamped_empty 0, by simp⟩, Nat.le_refl _, rfl⟩)
      have hbf3 := Lib.hid s1
      have hbq3 := Lib.hid s3
      have hown3 := Lib.hid hown1
      clear s0 s1 s2 s3 s4 s5 q0 q1 q2 q3 hown1 d2' hk4 hb5 hO hmk hxn
      obtain ⟨NS, hNS⟩ : ∃ n, n = x.S := ⟨_, rfl⟩
      have hstates : x.states = (NS : Int) := by have h1 := hv.states; rw [hNS]; show x.states = (x.states.toNat : Int); omega
      have HNS := Lib.hid hNS
      have hNS36 : 1 ≤ NS ∧ NS ≤ 36 := by rw [hNS]; exact hnat.2.1
      have hmkb := run_make_row' (P := Try.prog) 126 4 (.bool false) 1 Try.underlying126 infoBf rfl .i64 .i64 NS (by omega) (by omega)
      obtain ⟨a8, c8, a9', c9', f0, f1, f2, f3, -, -, -⟩ := hFA3.out.box.cells
      rw [hstates] at f1
      have F1 := Lib.hid f1
      have hlt3 := Lib.hid (show bx < W3.heap.size ∧ b0 < W3.heap.size ∧ bq < W3.heap.size ∧ gq < W3.heap.size from by have := Hr.out; have := HB.out; omega)
      have hc3q := heap_cell hbq3.out (i := 0) rfl
      have hc30 := hFA3.out.c
      have Hc3q := Lib.hid hc3q
      have Hc30 := Lib.hid hc30
      clear hNS f0 f1 f2 f3 hc30 hstates
      go_wp2
      clear hc3q
      go_loopw [54] (fun kv wr => ∃ (k : Nat) (T : List (List Bool)) (S : List Nat), kv = .int .i64 k ∧ k ≤ NP ∧ Hid (T.length = NP ∧ ∀ i, i < k → nth T i = List.replicate NS false) ∧ Hid (OBB wr (.slice (some ⟨gq, 0, none⟩) NP NP) T S ∧ ∀ j ∈ S, j = gq ∨ W3.heap.size ≤ j) ∧ Hid (Only [gq] W3 wr)) (fun kv _ => NP - (intOf kv).toNat)
      case atStart => exact ⟨0, _, _, rfl, Nat.zero_le _, Lib.hid ⟨by simp, fun i h => absurd h (Nat.not_lt_zero _)⟩, Lib.hid ⟨hown3.out, by simp⟩, Lib.hid (Only.refl _ _)⟩
      case round =>
        obtain ⟨k, T, S3, rfl, hk, hT, hO3, hon3⟩ := hrel
        obtain ⟨W4, rfl⟩ : ∃ W, W = wr := ⟨_, rfl⟩
        by_cases hlk : k < NP
        · obtain ⟨u0, T0, hcu, _⟩ := Own.at (R := OBf) hO3.out.1 (i := k) (by rw [hT.out.1]; exact hlk)
          have hfz := Own.frozen (R := OBf) hO3.out.1 k
          have hsc := Lib.hid (fun (W : World) (hb : Below W4.heap.size W4 W) => (show W.cell? ⟨bq, 0, none⟩ = some (.slice (some ⟨gq, 0, none⟩) NP NP) ∧ W.cell? ⟨b0, 0, none⟩ = some (.pointer (some ⟨bx, 0, none⟩)) ∧ W.cell? ⟨bx, 1, none⟩ = some (.int .i64 NS) from by
            have h1 := hlt3.out
            have h2 := hon3.out.size
            have h3 := Hr.out
            have h4 := HB.out
            exact ⟨((hb.cell (p := ⟨bq, 0, none⟩) (by show bq < _; omega)).trans (cell_keep (hon3.out.block bq (by omega) (by simp; omega)))).trans Hc3q.out, ((hb.cell (p := ⟨b0, 0, none⟩) (by show b0 < _; omega)).trans (cell_keep (hon3.out.block b0 (by omega) (by simp; omega)))).trans Hc30.out, ((hb.cell (p := ⟨bx, 1, none⟩) (by show bx < _; omega)).trans (cell_keep (hon3.out.block bx (by omega) (by simp; omega)))).trans F1.out⟩))
          have hgq4 := Lib.hid (show gq < W4.heap.size by have := hlt3.out; have := hon3.out.size; omega)
          have hn3 : (W4.alloc (.cells (madeCells #[.bool false] NS) 4)).cell? ⟨gq, k, none⟩ = some u0 := (World.cell?_alloc_past _ _ _ (by exact hgq4.out)).trans hcu
          have hn4 : (W4.alloc (.cells (madeCells #[.bool false] NS) 4)).frozen? ⟨gq, k, none⟩ = false := (World.frozen?_alloc_past _ _ _ (by exact hgq4.out)).trans hfz
          have hn1 : (W4.drew.alloc (.cells (madeCells #[.bool false] NS) 4)).cell? ⟨gq, k, none⟩ = some u0 := (World.cell?_alloc_past _ _ _ (by exact hgq4.out)).trans hcu
          have hn2 : (W4.drew.alloc (.cells (madeCells #[.bool false] NS) 4)).frozen? ⟨gq, k, none⟩ = false := (World.frozen?_alloc_past _ _ _ (by exact hgq4.out)).trans hfz
          go_upto_region 15 with fail
          have hS0 := hsc.out W4.drew (Below.refl W4.heap.size W4).drew
          refine wp_region_float 6 (fun w' => w'.cell? ⟨bq, 0, none⟩ = some (.slice (some ⟨gq, 0, none⟩) NP NP) ∧ w'.cell? ⟨b0, 0, none⟩ = some (.pointer (some ⟨bx, 0, none⟩)) ∧ w'.cell? ⟨bx, 1, none⟩ = some (.int .i64 NS)) (by kernel_rfl) (by kernel_rfl) hS0 ?_
          clear hS0
          intro hS0
          simp only [List.take_succ_cons, List.take_zero, List.drop_succ_cons, List.drop_zero]
          iterate 6 (refine wpReads_cons _ (by rfl) (by intro w' hSw; (try dsimp only at hSw); go_simp; try (with_reducible rfl)) ?_; try simp only [Act.put, List.setIfInBounds_toArray, List.set_cons_zero, List.set_cons_succ])
          refine wpReads_nil ?_
          refine wpTail_cons fun K hK => ?_
          go_simp
          refine hK.out _ _ (hsc.out _ ((Below.refl W4.heap.size W4).drew.alloc (Nat.le_refl _) _)) ?_
          clear hK K hS0
          try simp only [Act.put, List.setIfInBounds_toArray, List.set_cons_zero, List.set_cons_succ]
          refine wpTail_cons fun K hK => ?_
          go_simp
          refine hK.out _ _ (hsc.out _ ((Below.refl W4.heap.size W4).drew.alloc (Nat.le_refl _) _)) ?_
          clear hK K
          try simp only [Act.put, List.setIfInBounds_toArray, List.set_cons_zero, List.set_cons_succ]
          refine wpTail_one ?_
          go_wp2_with fail
          refine NoPanic.normal ?_
          have hr1 := Own.made W4 4 fB false NS (by unfold maxLen; omega)
          have hown1 := Own.alloc OBf.ok hO3.out.1 (.cells (madeCells #[fB false] NS) 4)
          obtain ⟨S', hp', hS'⟩ := Own.putR (R := OBf) OBf.ok hown1 (i := k) (by rw [hT.out.1]; exact hlk) hr1 (fun j hj hm => by simp at hj; have h2 := OBB.ok.lt hO3.out.1 j hm; omega)
          have hp2 := Lib.hid (show OBB ((W4.alloc (.cells (madeCells #[.bool false] NS) 4)).setCell ⟨gq, k, none⟩ (.slice (some ⟨W4.heap.size, 0, none⟩) NS NS)).drew (.slice (some ⟨gq, 0, none⟩) NP NP) (T.set k (List.replicate NS false)) S' ∧ ∀ j ∈ S', j = gq ∨ W3.heap.size ≤ j from
            ⟨OBB.ok.keep hp' fun _ _ => rfl, fun j hj => by
              rcases hS' j hj with h | h
              · exact hO3.out.2 j h
              · simp at h
                have := hon3.out.size
                exact .inr (by omega)⟩)
          have hT2 := Lib.hid (show (T.set k (List.replicate NS false)).length = NP ∧ ∀ i, i < k + 1 → nth (T.set k (List.replicate NS false)) i = List.replicate NS false from
            ⟨by rw [List.length_set]; exact hT.out.1, fun i hi => by
              rw [nth_set (by rw [hT.out.1]; exact hlk)]
              split
              · rfl
              · exact hT.out.2 i (by omega)⟩)
          have hon4 := Lib.hid (show Only [gq] W3 ((W4.alloc (.cells (madeCells #[.bool false] NS) 4)).setCell ⟨gq, k, none⟩ (.slice (some ⟨W4.heap.size, 0, none⟩) NS NS)).drew from ((hon3.out.alloc _).put (by simp) _ _).drew)
          clear hr1 hown1 hp' hS' hn1 hn2 hn3 hn4 hcu hfz
          go_wp2
          refine ⟨⟨k + 1, _, S', by go_num, by omega, hT2, hp2, hon4⟩, ?_⟩
          simp [intOf]; omega
        · have hkE2 : k = NP := by omega
          have hTe := Lib.hid (show T = List.replicate NP (List.replicate NS false) from ext_nth (by rw [hT.out.1]; simp) fun i hi => by rw [hT.out.1] at hi; rw [hT.out.2 i (by omega), nth_replicate hi])
          have hS3 := Lib.hid (show ∀ j ∈ S3, (j = gq ∨ bq < j) ∧ j < W4.heap.size from fun j hj => ⟨by
            rcases hO3.out.2 j hj with h | h
            · exact .inl h
            · have := Hr.out
              exact .inr (by omega), OBB.ok.lt hO3.out.1 j hj⟩)
          have hL0 := Lib.hid (show L4 x kind p ⟨bx, b0, b1, b2, b3, b5, bm, bf, gq, bq, W4.heap.size⟩ (.slice ab nb cb) NP NS S3 w 0 (mkN x kind p 0) T W4 from by
            have hr := Hr.out
            have hz := hon3.out.size
            have hb := hbw3.out.size
            have hkk : ∀ j, j < W3.heap.size → j ≠ gq → W4.heap[j]? = W3.heap[j]? := fun j h1 h2 => hon3.out.block j h1 (by simp; exact h2)
            refine ⟨?_, hS3.out, hFA3.out.keep fun j hj => ?_, ?_, hO3.out.1, ?_, ?_, ⟨0, .map [], ?_, Nat.le_refl _, fun s' hs' => absurd hs' (Nat.not_lt_zero _)⟩, ?_⟩
            · show bf = bm + 1 ∧ gq = bm + 2 ∧ bq = bm + 3 ∧ bm + 4 ≤ W4.heap.size ∧ w.heap.size ≤ bm ∧ W4.heap.size ≤ W4.heap.size
              have := Hq.out
              omega
            · have hj : j < bm := hj
              exact hkk j (by omega) (by omega)
            · rw [hTe.out]; exact mkN_start (MT.blank NP NS)
            · exact (hkk bq (by omega) (by omega)).trans hbq3.out
            · exact (hkk bf (by omega) (by omega)).trans hbf3.out
            · obtain ⟨es, clock, q1, q2⟩ := hmp3.out
              exact ⟨es, clock, (hkk bm (by omega) (by omega)).trans q1, q2⟩
            · have hq := Hq.out
              exact below_only hbw3.out hon3.out (by omega) (by simp; omega))
          have d0 := hL0.out.fa.c
          have d0 : W4.cell? ⟨b0, 0, none⟩ = some (.pointer (some ⟨bx, 0, none⟩)) := d0
          have d1 : W4.cell? ⟨bx, 1, none⟩ = some (.int .i64 NS) := by
            have h1 := hlt3.out
            have h3 := Hr.out
            have h4 := HB.out
            exact (cell_keep (hon3.out.block bx (by omega) (by simp; omega))).trans F1.out
          have HkE2 := Lib.hid hkE2
          have Hlk := Lib.hid hlk
          clear hkE2 hk
          go_wp2
          obtain ⟨Z, hZ⟩ : ∃ z, z = W4.heap.size := ⟨_, rfl⟩
          rw [← hZ] at hL0 hS3
          have HZ := Lib.hid hZ
          clear hZ d0 d1
          go_loopw [70] (fun sv wr => ∃ (s : Nat) (T : List (List Bool)), sv = .int .i64 s ∧ s ≤ NS ∧ Hid (L4 x kind p ⟨bx, b0, b1, b2, b3, b5, bm, bf, gq, bq, Z⟩ (.slice ab nb cb) NP NS S3 w s (mkN x kind p s) T wr)) (fun sv _ => NS - (intOf sv).toNat)
          case atStart => exact ⟨0, T, rfl, Nat.zero_le _, hL0⟩
          case round =>
            clear hL0 hT hO3 hon3 hTe
            obtain ⟨s, T, rfl, hs, hL⟩ := hrel
            obtain ⟨W6, rfl⟩ : ∃ W, W = wr := ⟨_, rfl⟩
            by_cases hls : s < NS
            · go_upto_region 20 with fail
              obtain ⟨W7, hW7⟩ : ∃ W, W = W6.alloc (.cells #[.int .i64 s] 2) := ⟨_, rfl⟩
              rw [← hW7]
              have hb67 := Lib.hid (show Below W6.heap.size W6 W7 from by rw [hW7]; exact (Below.refl _ _).alloc (Nat.le_refl _) _)
              have hns := heap_alloc_new W6 (.cells #[.int .i64 s] 2)
              rw [← hW7] at hns
              have HW7 := Lib.hid hW7
              obtain ⟨bs, hbs⟩ : ∃ b, b = W6.heap.size := ⟨_, rfl⟩
              rw [← hbs] at hns ⊢
              have Hns := Lib.hid hns
              have hL7 := Lib.hid (hL.out.below hb67.out)
              obtain ⟨n7, D7, hm7, hn7, hF7⟩ := hL7.out.mp
              have hpN : p < NP := by have := HNP.out; omega
              obtain ⟨gr, cr, cur, r1, r2, r3, r4, r5, r6, r7, r8, r9⟩ := OBB.at hL7.out.ow hL7.out.mt hpN hls
              have hxS : NS = x.S := HNS.out
              have hsS : s < x.S := by omega
              have hcs : cur[s]? = some (.bool false) := by
                rw [r6 s hls]
                have h1 := hL7.out.mt.val p s hpN hls
                cases h2 : nth (nth T p) s
                · rfl
                · have h3 := h1.1 h2
                  exact absurd h3.2.1 (Nat.lt_irrefl _)
              have hl7 := hL7.out.ls
              dsimp only at hl7
              have hgS : (gr = gq ∨ bq < gr) ∧ gr < Z := hL7.out.lS gr r7
              have hgq : gr ≠ gq := r8
              have hz6 : Z ≤ W6.heap.size := hL.out.ls.2.2.2.2.2
              have hMk := Lib.hid (show ∀ w1, Below W7.heap.size W7 w1 → MkC w1 bq gq gr NP p x.S cr cur from fun w1 hb => by
                have h1 := heap_cell hL7.out.hq (i := 0) rfl
                have h1 : W7.cell? ⟨bq, 0, none⟩ = some (.slice (some ⟨gq, 0, none⟩) NP NP) := h1
                refine ⟨(hb.cell (p := ⟨bq, 0, none⟩) (World.block_lt_of_cell? W7 _ h1)).trans h1, ⟨hpN, by omega⟩, ?_, (hb.block gr (by omega)).trans r4, by omega⟩
                rw [← hxS]
                exact (hb.cell (p := ⟨gq, p, none⟩) (World.block_lt_of_cell? W7 _ r1)).trans r1)
              have hFA7 := Lib.hid (show ∀ w1, Below W7.heap.size W7 w1 → FA x kind p b0 b1 b2 b3 b5 bx bm (.slice ab nb cb) w1 ∧ w1.cell? ⟨bs, 0, none⟩ = some (.int .i64 s) ∧ w1.cell? ⟨bf, 0, none⟩ = some (.map (some bm)) ∧ w1.ownsMap Try.prog 2 tok bm n7 D7 from fun w1 hb =>
                ⟨(hL7.out.below hb).fa, heap_cell ((hb.block bs (heap_lt Hns.out)).trans Hns.out) (i := 0) rfl, heap_cell ((hb.block bf (heap_lt hL7.out.hf)).trans hL7.out.hf) (i := 0) rfl, hm7.kept (grown_below hb) (by simp)⟩)
              have hne7 := Lib.hid (show bm ≤ gr ∧ bq ≠ gr ∧ gq ≠ gr ∧ bs ≠ gr ∧ bf ≠ gr ∧ bm ≠ gr ∧ bq ≠ bm ∧ gq ≠ bm ∧ bs ≠ bm ∧ bf ≠ bm ∧ gr < W7.heap.size ∧ bm ≤ bm from by
                have := heap_lt r4
                omega)
              obtain ⟨NB, hNB⟩ : ∃ n : Nat, n = x.b := ⟨_, rfl⟩
              have HNB := Lib.hid hNB
              have hNB2 := Lib.hid (show 1 ≤ NB ∧ NB ≤ 36 from by omega)
              have htup := Lib.hid (fun m => implTuples NB E hNB2.out.1 hNB2.out.2 hel.1 hel.2 (W7.drewN m) 154
                #[.pointer (some ⟨b1, 0, none⟩), .pointer (some ⟨b0, 0, none⟩), .pointer (some ⟨b5, 0, none⟩), .pointer (some ⟨b2, 0, none⟩), .pointer (some ⟨b3, 0, none⟩), .pointer (some ⟨bs, 0, none⟩), .pointer (some ⟨bq, 0, none⟩), .pointer (some ⟨bf, 0, none⟩)]
                (fun i w1 => (∀ j, j < i → ¬ FrmS x kind p s (tup NB E j)) ∧ Below W7.heap.size W7 w1)
                (fun w1 => (¬ canN x kind p s ∧ Below W7.heap.size W7 w1) ∨ (canN x kind p s ∧ ∃ f, LeastL (FrmS x kind p s) f ∧ FT gr s bm n7 cur f D7 W7 w1))
                (fun w1 h1 => ⟨fun j hj => absurd hj (Nat.not_lt_zero _), (Below.draws (Below.refl _ _) m).trans h1⟩)
                (fun i w1 w2 h1 h2 => ⟨h1.1, h1.2.trans h2⟩)
                (fun w1 h1 => .inl ⟨fun hc => by
                  obtain ⟨i, hi, hf⟩ := can_frm.1 hc
                  rw [← HE.out, ← HNB.out] at hi hf
                  exact h1.1 i hi hf, h1.2⟩)
                (fun i hi L c w1 hL1 hL2 hrd hI => by
                  have hL1 : W7.heap.size ≤ L := hL1
                  have hEE := HE.out
                  have hBB := HNB.out
                  have hne := hne7.out
                  obtain ⟨f1, f2, f3, f4⟩ := hFA7.out w1 hI.2
                  rw [hEE, hBB] at hrd
                  rw [hEE, hBB] at hi
                  have hxb : 1 ≤ x.b := by rw [← hBB]; exact hNB2.out.1
                  rw [hEE]
                  refine (implFA1 hv Hko.out f1 (by rw [← hEE]; exact hp) (hMk.out w1 hI.2) hcs hsS f2 f3 f4 (by omega) ⟨hne.1, hne.2.1, hne.2.2.1, hne.2.2.2.1, hne.2.2.2.2.1, hne.2.2.2.2.2.1, hne.2.2.2.2.2.2.1, hne.2.2.2.2.2.2.2.1, hne.2.2.2.2.2.2.2.2.1, hne.2.2.2.2.2.2.2.2.2.1, by omega, Nat.le_refl _⟩ hL2 hrd (tup_digs hxb _ _) (tup_length _ _ _)).mono ?_
                  rintro e w2 (⟨rfl, hno, hb⟩ | ⟨rfl, ⟨t, ht, hg⟩, hft⟩)
                  · refine ⟨true, rfl, fun _ => ⟨fun j hj => ?_, hI.2.trans (hb.mono hI.2.size)⟩, (fun h => by cases h), fun k hk1 hk2 => hb.block k hk2⟩
                    rcases Nat.lt_succ_iff_lt_or_eq.1 hj with h1 | rfl
                    · rw [← hEE]
                      exact hI.1 j h1
                    · rintro ⟨_, _, t, ht, hg⟩
                      rw [hBB] at ht hg
                      exact hno t ht hg
                  · refine ⟨false, rfl, (fun h => by cases h), fun _ => .inr ⟨can_frm.2 ⟨i, hi, tup_length _ _ _, tup_digs hxb _ _, t, ht, hg⟩, _, frm_least hxb hi ⟨tup_length _ _ _, tup_digs hxb _ _, t, ht, hg⟩ (fun j hj hf => hI.1 j hj (by rw [hEE, hBB]; exact hf)), hft.before hI.2⟩, fun k hk1 hk2 => hft.block k hk2 (by have hk1 : W7.heap.size ≤ k := hk1; omega) (by have hk1 : W7.heap.size ≤ k := hk1; omega)⟩)
                (fun args w => rfl))
              obtain ⟨v1, v2, v3, v4⟩ := hFA7.out W7 (Below.refl _ _)
              have d0 := v1.c
              have d3 : W7.cell? ⟨b3, 0, none⟩ = some (.int .i64 E) := by rw [HE.out]; exact v1.n
              obtain ⟨y1, y2, y3, y4, y0, -⟩ := v1.box.cells
              rw [show x.base = (NB : Int) by have h1 := hv.base; rw [hNB]; show x.base = (x.base.toNat : Int); omega] at y0
              have Hdone := Lib.hid (show ∀ w8, (¬ canN x kind p s ∧ Below W7.heap.size W7 w8) ∨ (canN x kind p s ∧ ∃ f, LeastL (FrmS x kind p s) f ∧ FT gr s bm n7 cur f D7 W7 w8) → ∃ T', L4 x kind p ⟨bx, b0, b1, b2, b3, b5, bm, bf, gq, bq, Z⟩ (.slice ab nb cb) NP NS S3 w (s + 1) (mkN x kind p (s + 1)) T' w8 from fun w8 h8 => by
                rcases h8 with ⟨hno, hb⟩ | ⟨hc, f, hl, hft⟩
                · exact ⟨T, (hL7.out.below hb).none hno⟩
                · exact ⟨_, hL7.out.found hls hpN hc hm7 hn7 hF7 r7 r8 hl hft r9⟩)
              clear v1 v2 v3 v4 hL hbs hW7 hns hL7 hm7 hn7 hF7 r1 r2 r3 r4 r5 r6 r7 r8 r9 hcs hl7 hgS hgq hz6 hxS hsS hMk hFA7 hne7 hNB hpN hb67
              refine wp_region_quiet_tail_lit 6 (by kernel_rfl) (by kernel_rfl) ?_
              simp only [List.take_succ_cons, List.take_zero, List.drop_succ_cons, List.drop_zero]
              repeat (go_big_quiet_step (fail))
              refine wpQuiet_nil ?_
              rintro _ ⟨nq, rfl⟩
              go_wp2_with fail
              refine Calls.mono (htup.out nq) ?_
              rintro e w8 ⟨rfl, hfin⟩
              obtain ⟨T', hL8⟩ := Hdone.out w8 hfin
              have HL8 := Lib.hid hL8
              clear hL8 hfin d0 d3 y0 htup Hdone
              go_wp2
              refine ⟨⟨s + 1, T', by go_num, by omega, HL8⟩, ?_⟩
              simp [intOf]; omega
            · have hsE : s = NS := by omega
              have hL6 := Lib.hid (show L4 x kind p ⟨bx, b0, b1, b2, b3, b5, bm, bf, gq, bq, Z⟩ (.slice ab nb cb) NP NS S3 w NS (mkD x kind p p) T W6 from by
                have h1 := hL.out
                rw [hsE] at h1
                refine h1.congr ?_
                have h2 := h1.mt
                rw [HNP.out] at h2 ⊢
                exact mkN_done h2)
              have d2 := hL6.out.fa.pl
              have d2 : W6.cell? ⟨b2, 0, none⟩ = some (.int .i64 p) := d2
              have hp1 : IntKind.i64.wrap ((p : Int) - 1) = (p : Int) - 1 := IntWalk.i64_in _ (by omega)
              clear hL
              go_wp2
              clear d2 hp1
              go_loopw [14] (fun kv wr => ∃ (c : Nat) (z : Int) (T : List (List Bool)), kv = .int .i64 z ∧ z = (c : Int) - 1 ∧ c ≤ p ∧ Hid (L4 x kind p ⟨bx, b0, b1, b2, b3, b5, bm, bf, gq, bq, Z⟩ (.slice ab nb cb) NP NS S3 w NS (mkD x kind p c) T wr)) (fun kv _ => (intOf kv + 1).toNat)
              case atStart => exact ⟨p, _, T, rfl, rfl, Nat.le_refl _, hL6⟩
              case round =>
                clear hL6
                obtain ⟨c, z, T, rfl, hz, hc, hL⟩ := hrel
                obtain ⟨W8, rfl⟩ : ∃ W, W = wr := ⟨_, rfl⟩
                by_cases hc1 : 1 ≤ c
                · obtain ⟨k, rfl⟩ : ∃ j, c = j + 1 := ⟨c - 1, by omega⟩
                  obtain rfl : z = (k : Int) := by omega
                  clear hz
                  have hkp : k < p := by omega
                  have hcells := Lib.hid (show ∀ s F T wr, L4 x kind p ⟨bx, b0, b1, b2, b3, b5, bm, bf, gq, bq, Z⟩ (.slice ab nb cb) NP NS S3 w s F T wr → wr.cell? ⟨b0, 0, none⟩ = some (.pointer (some ⟨bx, 0, none⟩)) ∧ wr.cell? ⟨bx, 1, none⟩ = some (.int .i64 NS) ∧ wr.cell? ⟨bx, 0, none⟩ = some (.int .i64 (x.b : Nat)) from fun s F T wr h => by
                    obtain ⟨y1, y2, y3, y4, y0, y5, -⟩ := h.fa.box.cells
                    have e1 : x.states = (NS : Int) := by have h1 := hv.states; rw [HNS.out]; show x.states = (x.states.toNat : Int); omega
                    have e2 : x.base = (x.b : Int) := by have h1 := hv.base; show x.base = (x.base.toNat : Int); omega
                    rw [e1] at y5
                    rw [e2] at y0
                    exact ⟨h.fa.c, y5, y0⟩)
                  obtain ⟨d0, d1, -⟩ := hcells.out _ _ _ _ hL.out
                  have hL8 := Lib.hid (hL.out.congr (mkB_start hL.out.mt))
                  clear hL hc1
                  go_wp2
                  clear d0 d1
                  go_loopw [91] (fun sv wr => ∃ (s : Nat) (T : List (List Bool)), sv = .int .i64 s ∧ s ≤ NS ∧ Hid (L4 x kind p ⟨bx, b0, b1, b2, b3, b5, bm, bf, gq, bq, Z⟩ (.slice ab nb cb) NP NS S3 w NS (mkB x kind p k s 0) T wr)) (fun sv _ => NS - (intOf sv).toNat)
                  case atStart => exact ⟨0, T, rfl, Nat.zero_le _, hL8⟩
                  case round =>
                    clear hL8
                    obtain ⟨s, T, rfl, hs, hL⟩ := hrel
                    obtain ⟨W9, rfl⟩ : ∃ W, W = wr := ⟨_, rfl⟩
                    by_cases hls : s < NS
                    · obtain ⟨d0, -, d1⟩ := hcells.out _ _ _ _ hL.out
                      obtain ⟨NB, hNB⟩ : ∃ n : Nat, n = x.b := ⟨_, rfl⟩
                      rw [← hNB] at d1
                      have HNB := Lib.hid hNB
                      have hNB36 : NB ≤ 36 := by omega
                      clear hNB
                      go_wp2
                      clear d0 d1
                      go_loopw [98] (fun dv wr => ∃ (d : Nat) (T : List (List Bool)), dv = .int .i64 d ∧ d ≤ NB ∧ Hid (L4 x kind p ⟨bx, b0, b1, b2, b3, b5, bm, bf, gq, bq, Z⟩ (.slice ab nb cb) NP NS S3 w NS (mkB x kind p k s d) T wr)) (fun dv _ => NB - (intOf dv).toNat)
                      case atStart => exact ⟨0, T, rfl, Nat.zero_le _, hL⟩
                      case round =>
                        clear hL
                        obtain ⟨d, T, rfl, hd, hL⟩ := hrel
                        obtain ⟨W10, rfl⟩ : ∃ W, W = wr := ⟨_, rfl⟩
                        by_cases hld : d < NB
                        · have hkN : k < NP := by have := HNP.out; omega
                          have hkN1 : k + 1 < NP := by have := HNP.out; omega
                          have hkx : k < x.n := by have := HNX.out; have := HPN.out; omega
                          have hsS : s < x.S := by rw [← HNS.out]; exact hls
                          have hdb : d < x.b := by rw [← HNB.out]; exact hld
                          have hnx := (hv.cellN hkx hsS hdb).2
                          rw [← HNS.out] at hnx
                          obtain ⟨gr, cr, cur, r1, r2, r3, r4, r5, r6, r7, r8, r9⟩ := OBB.at hL.out.ow hL.out.mt hkN hls
                          obtain ⟨gr', cr', cur', r1', r2', r3', r4', r5', r6', r7', r8', -⟩ := OBB.at hL.out.ow hL.out.mt hkN1 hnx
                          have hcl := Lib.hid (fun m => implNext (hL.out.fa.box.draws m) hv k s d hkx hsS hdb)
                          have hval := hL.out.mt.val (k + 1) (nxt x k s d) hkN1 hnx
                          have hcan := Lib.hid (show nth (nth T (k + 1)) (nxt x k s d) = true ↔ canK x kind p (k + 1) (nxt x k s d) from hval.trans (by
                            unfold mkB
                            constructor
                            · rintro (h | ⟨h, _⟩ | ⟨h, _⟩)
                              · exact h.2
                              · omega
                              · omega
                            · exact fun h => .inl ⟨by omega, h⟩))
                          have e1 := heap_cell r4 (r6 s hls)
                          have e2 := heap_cell r4' (r6' (nxt x k s d) hnx)
                          have e3 := frozen_at r4 s
                          have e4 : W10.cell? ⟨bq, 0, none⟩ = some (.slice (some ⟨gq, 0, none⟩) NP NP) := heap_cell hL.out.hq (i := 0) rfl
                          have e5 : W10.cell? ⟨gq, k, none⟩ = some (.slice (some ⟨gr, 0, none⟩) NS cr) := r1
                          have e6 : W10.cell? ⟨gq, k + 1, none⟩ = some (.slice (some ⟨gr', 0, none⟩) NS cr') := r1'
                          obtain ⟨e7, -, -⟩ := hcells.out _ _ _ _ hL.out
                          have Hr9 := Lib.hid r9
                          have Hr := Lib.hid (show gr ∈ S3 ∧ gr ≠ gq ∧ gr < W10.heap.size from ⟨r7, r8, heap_lt r4⟩)
                          have Hr4 := Lib.hid r4
                          obtain ⟨c0, hc0⟩ : ∃ b, b = nth (nth T k) s := ⟨_, rfl⟩
                          obtain ⟨c1, hc1⟩ : ∃ b, b = nth (nth T (k + 1)) (nxt x k s d) := ⟨_, rfl⟩
                          rw [← hc0] at e1
                          rw [← hc1] at e2 hcan
                          have Hc0 := Lib.hid hc0
                          have HNXX := Lib.hid (show ∀ b : Bool, (b = true ↔ (nth (nth T k) s = true ∨ c1 = true)) → MT NP NS (setB T k s b) (mkB x kind p k s (d + 1)) from fun b hb => mkB_step hL.out.mt hkN hls (hb.trans ⟨fun h => h.imp id hcan.out.1, fun h => h.imp id hcan.out.2⟩))
                          generalize nxt x k s d = nx at *
                          have i1 : (0 : Int) ≤ (k : Int) := by omega
                          have i2 : (k : Int) < (NP : Int) := by omega
                          have i3 : (0 : Int) ≤ (k : Int) + 1 := by omega
                          have i4 : (k : Int) + 1 < (NP : Int) := by omega
                          have i5 : ((k : Int) + 1).toNat = k + 1 := by omega
                          have i6 : IntKind.i64.wrap ((k : Int) + 1) = (k : Int) + 1 := IntWalk.i64_in _ (by omega)
                          have i7 : (0 : Int) ≤ (s : Int) := by omega
                          have i8 : (s : Int) < (NS : Int) := by omega
                          have i9 : (0 : Int) ≤ (nx : Int) := by omega
                          have i10 : (nx : Int) < (NS : Int) := by omega
                          have hend := Lib.hid (show ∀ b m, (b = true ↔ (nth (nth T k) s = true ∨ c1 = true)) → L4 x kind p ⟨bx, b0, b1, b2, b3, b5, bm, bf, gq, bq, Z⟩ (.slice ab nb cb) NP NS S3 w NS (mkB x kind p k s (d + 1)) (setB T k s b) ((W10.drewN m).setCell ⟨gr, s, none⟩ (.bool b)) from fun b m hb => by
                            refine hL.out.turn Hr.out.1 Hr.out.2.1 (fun j hj hne => heap_setCell_other (W10.drewN m) _ j _ hne) (by simp) (Hr9.out _ _ (fun j hj hne => heap_setCell_other (W10.drewN m) _ j _ hne) (heap_setCell_same (W10.drewN m) gr s _ _ _ Hr4.out)) (HNXX.out b hb) ⟨rfl, rfl, rfl⟩)
                          clear r1 r2 r3 r4 r5 r6 r7 r8 r9 r1' r2' r3' r4' r5' r6' r7' r8' hval hc0 hc1 hL
                          cases c0
                          · have he2 := Lib.hid (fun m => hend.out c1 m (by rw [← Hc0.out]; simp))
                            clear hend
                            go_wp2
                            refine wp_region_quiet_tail_lit 27 (by kernel_rfl) (by kernel_rfl) ?_
                            simp only [List.take_succ_cons, List.take_zero, List.drop_succ_cons, List.drop_zero]
                            repeat (go_big_quiet_step (first | with_reducible exact quiet_draws (hcl.out _)))
                            refine wpQuiet_nil ?_
                            rintro _ ⟨nq, rfl⟩
                            go_wp2
                            refine ⟨⟨d + 1, _, by go_num, by omega, Lib.hid (he2.out nq)⟩, ?_⟩
                            simp [intOf]; omega
                          · have he2 := Lib.hid (fun m => hend.out true m (by rw [← Hc0.out]; simp))
                            clear hend
                            go_wp2
                            refine wp_region_quiet_tail_lit 27 (by kernel_rfl) (by kernel_rfl) ?_
                            simp only [List.take_succ_cons, List.take_zero, List.drop_succ_cons, List.drop_zero]
                            repeat (go_big_quiet_step (first | with_reducible exact quiet_draws (hcl.out _)))
                            refine wpQuiet_nil ?_
                            rintro _ ⟨nq, rfl⟩
                            go_wp2
                            refine ⟨⟨d + 1, _, by go_num, by omega, Lib.hid (he2.out nq)⟩, ?_⟩
                            simp [intOf]; omega
                        · have hdE : d = NB := by omega
                          have hL2 := Lib.hid (hL.out.congr (mkB_next (by have h1 := hL.out.mt; rw [hdE, HNB.out] at h1; exact h1) hkp))
                          go_wp2
                          refine ⟨⟨s + 1, T, by go_num, by omega, hL2⟩, ?_⟩
                          simp [intOf]; omega
                    · have hsE : s = NS := by omega
                      have hL2 := Lib.hid (hL.out.congr (mkB_done (by have h1 := hL.out.mt; rw [hsE] at h1; exact h1)))
                      go_wp2
                      refine ⟨⟨k, (k : Int) - 1, T, by go_num, rfl, by omega, hL2⟩, ?_⟩
                      (show ((k : Int) - 1 + 1).toNat < ((k : Int) + 1).toNat; omega)
                · obtain rfl : c = 0 := by omega
                  obtain rfl : z = -1 := by omega
                  obtain ⟨NT, hNT⟩ : ∃ n, n = x.start.toNat := ⟨_, rfl⟩
                  have hst : x.start = (NT : Int) := by have h1 := hv.start; omega
                  have hNTS : NT < NS := by rw [HNS.out, hNT]; exact hnat.2.2.1
                  have hNP0 : 0 < NP := by have := HNP.out; omega
                  obtain ⟨gr, cr, cur, r1, r2, r3, r4, r5, r6, r7, r8, r9⟩ := OBB.at hL.out.ow hL.out.mt hNP0 hNTS
                  have hval := hL.out.mt.val 0 NT hNP0 hNTS
                  have e1 := heap_cell r4 (r6 NT hNTS)
                  have e4 : W8.cell? ⟨bq, 0, none⟩ = some (.slice (some ⟨gq, 0, none⟩) NP NP) := heap_cell hL.out.hq (i := 0) rfl
                  have e5 : W8.cell? ⟨gq, 0, none⟩ = some (.slice (some ⟨gr, 0, none⟩) NS cr) := r1
                  have e7 : W8.cell? ⟨b0, 0, none⟩ = some (.pointer (some ⟨bx, 0, none⟩)) := hL.out.fa.c
                  obtain ⟨y1, y2, y3, y4, y0, y5, y6, -⟩ := hL.out.fa.box.cells
                  replace y6 : W8.cell? ⟨bx, 2, none⟩ = some (.int .i64 x.start) := y6
                  rw [hst] at y6
                  obtain ⟨c0, hc0⟩ : ∃ b, b = nth (nth T 0) NT := ⟨_, rfl⟩
                  rw [← hc0] at e1 hval
                  have Hval := Lib.hid (show c0 = true ↔ canK x kind p 0 x.start.toNat from hval.trans (by rw [← hNT]; exact ⟨fun h => h.2, fun h => ⟨Nat.le_refl _, h⟩⟩))
                  have HNT := Lib.hid hNT
                  have i1 : (0 : Int) ≤ (NT : Int) := by omega
                  have i2 : (NT : Int) < (NS : Int) := by omega
                  have i3 : (0 : Int) < (NP : Int) := by omega
                  clear r1 r2 r3 r4 r5 r6 r7 r8 r9 y1 y2 y3 y4 y0 y5 hval hc0 hz hst hNT hc
                  cases c0
                  · have hno := Lib.hid (pre_none (x := x) (kind := kind) (p := p) fun h => by have := Hval.out.2 h; cases this)
                    go_wp2
                    go_quiet (fail)
                    go_wp2
                    refine bodyPost_ret (v := .slice none 0 0) (by simp [results, Try.results106, go_sem]) rfl ?_
                    exact ⟨Below.draws hL.out.bel _, .inl ⟨hno.out, rfl⟩⟩
                  · have hcan := Lib.hid (Hval.out.1 rfl)
                    go_wp2
                    go_quiet (fail)
                    go_wp2
                    obtain ⟨W9, hW9⟩ : ∃ W, W = W8.drewN nq := ⟨_, rfl⟩
                    rw [← hW9]
                    have hL9 := Lib.hid (show L4 x kind p ⟨bx, b0, b1, b2, b3, b5, bm, bf, gq, bq, Z⟩ (.slice ab nb cb) NP NS S3 w NS (mkD x kind p 0) T W9 from by rw [hW9]; exact hL.out.below (Below.draws (Below.refl _ _) nq))
                    have e7 : W9.cell? ⟨b0, 0, none⟩ = some (.pointer (some ⟨bx, 0, none⟩)) := by rw [hW9]; exact e7
                    have y6 : W9.cell? ⟨bx, 2, none⟩ = some (.int .i64 NT) := by rw [hW9]; exact y6
                    have hsc := Lib.hid (fun (W : World) (hb : Below W9.heap.size W9 W) => (show W.cell? ⟨b0, 0, none⟩ = some (.pointer (some ⟨bx, 0, none⟩)) ∧ W.cell? ⟨bx, 2, none⟩ = some (.int .i64 NT) from ⟨(hb.cell (p := ⟨b0, 0, none⟩) (World.block_lt_of_cell? W9 _ e7)).trans e7, (hb.cell (p := ⟨bx, 2, none⟩) (World.block_lt_of_cell? W9 _ y6)).trans y6⟩))
                    clear hW9 hL e1 e4 e5
                    go_cut [17, 18] from 140 to 144 (fun ov sv wx => sv = .int .i64 NT ∧ (∃ a n c, ov = .slice a n c) ∧ Hid (Fresh OI W9 wx ov []))
                    case first =>
                      go_region_held3 (fun w' => w'.cell? ⟨b0, 0, none⟩ = some (.pointer (some ⟨bx, 0, none⟩)) ∧ w'.cell? ⟨bx, 2, none⟩ = some (.int .i64 NT)) ((refine hsc.out _ ?_; repeat' (first | with_reducible exact Below.refl _ _ | with_reducible exact Below.draws (Below.refl _ _) _ | with_reducible refine Below.draws ?_ _ | with_reducible refine Below.drew ?_ | with_reducible refine Below.alloc ?_ ?_ _ | with_reducible refine Below.setCell ?_ ?_ _ | (show _ ≤ _; simp)))) (fail)
                      all_goals (go_wp2_with fail)
                      all_goals go_meet
                      all_goals exact ⟨rfl, ⟨_, _, _, rfl⟩, Lib.hid ((show Fresh OI W9 (W9.alloc (.cells #[] 2)) (.slice (some ⟨W9.heap.size, 0, none⟩) 0 0) [] from Fresh.empty (Below.refl _ _)).drew OI.ok)⟩
                    case rest =>
                    clear e7 y6 hsc
                    obtain ⟨W10, rfl⟩ : ∃ W, W = wc := ⟨_, rfl⟩
                    obtain ⟨rfl, ⟨a9, n9, c9, rfl⟩, hf0⟩ := hcut
                    have hL10 := Lib.hid (hL9.out.below hf0.out.bel)
                    have e2 : W10.cell? ⟨b2, 0, none⟩ = some (.int .i64 p) := hL10.out.fa.pl
                    have hG0 := Lib.hid (pre_nil hcan.out)
                    obtain ⟨NB, hNB⟩ : ∃ n : Nat, n = x.b := ⟨_, rfl⟩
                    have HNB := Lib.hid hNB
                    have hNB36 : NB ≤ 36 := by omega
                    clear hNB
                    go_wp2
                    clear e2
                    go_loopw [17, 18, 146] (fun ov sv kv wr => ∃ (k : Nat) (u : List Int) (s : Nat), kv = .int .i64 k ∧ k ≤ p ∧ sv = .int .i64 s ∧ (∃ a n c, ov = .slice a n c) ∧ Hid (u.length = k ∧ s = runN x 0 x.start.toNat u) ∧ Hid (Fresh OI W9 wr ov u) ∧ Hid (GP (PreS x kind p) u)) (fun _ _ kv _ => p - (intOf kv).toNat)
                    case atStart => exact ⟨0, [], NT, rfl, Nat.zero_le _, rfl, ⟨_, _, _, rfl⟩, Lib.hid ⟨rfl, HNT.out⟩, hf0, hG0⟩
                    case round =>
                      clear hf0 hG0 hL10
                      obtain ⟨k, u, s, rfl, hk, rfl, ⟨a9, n9, c9, rfl⟩, hu, hf, hG⟩ := hrel
                      obtain ⟨W11, rfl⟩ : ∃ W, W = wr := ⟨_, rfl⟩
                      have hL11 := Lib.hid (hL9.out.below hf.out.bel)
                      by_cases hlt : k < p
                      · have hul := hu.out.1
                        have hus := hu.out.2
                        have hkx : k < x.n := by have := HNX.out; have := HPN.out; omega
                        have hsS : s < x.S := by rw [hus]; exact hv.runLt (pre_digs hG.out) (by rw [hul]; omega) hnat.2.2.1
                        have hmore := Lib.hid (show ∃ d, d < NB ∧ canK x kind p (k + 1) (nxt x k s d) from by
                          have h1 := pre_more hG.out (by rw [hul]; exact hlt)
                          rw [hul, ← hus, ← HNB.out] at h1
                          exact h1)
                        have HsS := Lib.hid hsS
                        clear hul hus hsS
                        go_wp2
                        go_loopw [20] (fun dv wi => ∃ d m : Nat, dv = .int .i64 d ∧ d < NB ∧ Hid (∀ e, e < d → ¬ canK x kind p (k + 1) (nxt x k s e)) ∧ Hid (W11.drewN m = wi)) (fun dv _ => NB - (intOf dv).toNat)
                        case atStart =>
                          obtain ⟨d, hd, _⟩ := hmore.out
                          exact ⟨0, 0, rfl, by omega, Lib.hid (fun e he => absurd he (Nat.not_lt_zero _)), Lib.hid rfl⟩
                        case round =>
                          obtain ⟨d, m, rfl, hd, hno, hm⟩ := hrel
                          obtain ⟨W12, rfl⟩ : ∃ W, W = wr := ⟨_, rfl⟩
                          have hb12 := Lib.hid (show Below W11.heap.size W11 W12 from by rw [← hm.out]; exact Below.draws (Below.refl _ _) m)
                          have hL12 := Lib.hid (hL11.out.below hb12.out)
                          have hdb : d < x.b := by rw [← HNB.out]; exact hd
                          have hnx := (hv.cellN hkx HsS.out hdb).2
                          rw [← HNS.out] at hnx
                          have hkN1 : k + 1 < NP := by have := HNP.out; omega
                          obtain ⟨gr, cr, cur, r1, r2, r3, r4, r5, r6, r7, r8, r9⟩ := OBB.at hL12.out.ow hL12.out.mt hkN1 hnx
                          have hval := hL12.out.mt.val (k + 1) (nxt x k s d) hkN1 hnx
                          have hcv := Lib.hid (show nth (nth T (k + 1)) (nxt x k s d) = true ↔ canK x kind p (k + 1) (nxt x k s d) from hval.trans ⟨fun h => h.2, fun h => ⟨Nat.zero_le _, h⟩⟩)
                          have e1 := heap_cell r4 (r6 (nxt x k s d) hnx)
                          have e4 : W12.cell? ⟨bq, 0, none⟩ = some (.slice (some ⟨gq, 0, none⟩) NP NP) := heap_cell hL12.out.hq (i := 0) rfl
                          have e6 : W12.cell? ⟨gq, k + 1, none⟩ = some (.slice (some ⟨gr, 0, none⟩) NS cr) := r1
                          have e7 : W12.cell? ⟨b0, 0, none⟩ = some (.pointer (some ⟨bx, 0, none⟩)) := hL12.out.fa.c
                          have hcl := Lib.hid (fun m => implNext (hL12.out.fa.box.draws m) hv k s d hkx HsS.out hdb)
                          obtain ⟨c1, hc1⟩ : ∃ b, b = nth (nth T (k + 1)) (nxt x k s d) := ⟨_, rfl⟩
                          rw [← hc1] at e1 hcv
                          clear r1 r2 r3 r4 r5 r6 r7 r8 r9 hval hc1
                          have HD := Lib.hid (show ∃ nx, nx = nxt x k s d from ⟨_, rfl⟩)
                          obtain ⟨nx, hnxe⟩ := HD.out
                          rw [← hnxe] at e1 hcl hnx hcv
                          have Hnxe := Lib.hid hnxe
                          clear hnxe HD
                          have i3 : (0 : Int) ≤ (k : Int) + 1 := by omega
                          have i4 : (k : Int) + 1 < (NP : Int) := by omega
                          have i5 : ((k : Int) + 1).toNat = k + 1 := by omega
                          have i6 : IntKind.i64.wrap ((k : Int) + 1) = (k : Int) + 1 := IntWalk.i64_in _ (by omega)
                          have i9 : (0 : Int) ≤ (nx : Int) := by omega
                          have i10 : (nx : Int) < (NS : Int) := by omega
                          cases c1
                          · have hnc := Lib.hid (show ¬ canK x kind p (k + 1) nx from fun h => by have := hcv.out.2 h; cases this)
                            have hd1 : d + 1 < NB := by
                              obtain ⟨d', q1, q2⟩ := hmore.out
                              rcases Nat.lt_or_ge d' (d + 1) with h | h
                              · rcases Nat.lt_succ_iff_lt_or_eq.1 h with h1 | rfl
                                · exact absurd q2 (hno.out d' h1)
                                · exact absurd (by rw [Hnxe.out]; exact q2) hnc.out
                              · rcases Nat.lt_or_eq_of_le h with h1 | rfl
                                · omega
                                · exact q1
                            go_wp2
                            go_quiet (first | with_reducible exact quiet_draws (hcl.out _))
                            go_wp2
                            refine ⟨⟨d + 1, m + nq, by go_num, hd1, Lib.hid fun e he => ?_, Lib.hid (draws_more hm.out nq)⟩, ?_⟩
                            · rcases Nat.lt_succ_iff_lt_or_eq.1 he with h1 | rfl
                              · exact hno.out e h1
                              · rw [← Hnxe.out]; exact hnc.out
                            · simp [intOf]; omega
                          · have hyc := Lib.hid (hcv.out.1 rfl)
                            go_wp2
                            go_quiet (first | with_reducible exact quiet_draws (hcl.out _))
                            go_wp2
                            obtain ⟨W13, hW13⟩ : ∃ W, W = W12.drewN nq := ⟨_, rfl⟩
                            rw [← hW13]
                            have hf13 := Lib.hid (show Fresh OI W9 W13 (.slice a9 n9 c9) u from by rw [hW13]; exact ((hf.out.stay OI.ok hb12.out).drewN OI.ok nq))
                            have hb13 := Lib.hid (show Below W9.heap.size W9 W13 from hf13.out.bel)
                            have hz13 := Lib.hid (show W9.heap.size ≤ W13.heap.size from hb13.out.size)
                            have hsc := Lib.hid (fun (W : World) (hb : Below W9.heap.size W9 W) => (show W.cell? ⟨b0, 0, none⟩ = some (.pointer (some ⟨bx, 0, none⟩)) from (hL9.out.below hb).fa.c))
                            have hcl2 := Lib.hid (fun (W : World) (hb : Below W9.heap.size W9 W) => (show Calls Try.prog 103 #[.pointer (some ⟨bx, 0, none⟩), .int .i64 k, .int .i64 s, .int .i64 d] W fun e w' => e = .returned (.int .i64 nx) ∧ ∃ m, W.drewN m = w' from by rw [Hnxe.out]; exact implNext (hL9.out.below hb).fa.box hv k s d hkx HsS.out hdb))
                            obtain ⟨S0, hS0, hS0b, hbel0⟩ := hf13.out
                            have HS0 := Lib.hid (show OI W13.drew (.slice a9 n9 c9) u S0 ∧ ∀ j ∈ S0, W9.heap.size ≤ j from ⟨hS0, hS0b⟩)
                            have hlen := Lib.hid (show u.length ≤ 20 from by rw [hu.out.1]; omega)
                            have e7 : W13.cell? ⟨b0, 0, none⟩ = some (.pointer (some ⟨bx, 0, none⟩)) := hsc.out _ hb13.out
                            have hpush := Lib.hid (fun (v14 : Value) (w14 : World) (S14 : List Nat) (h1 : OI w14 v14 (u ++ [(d : Int)]) S14) (h2 : Only S0 W13.drew w14) (h3 : ∀ j ∈ S14, j ∈ S0 ∨ j ∈ ([] : List Nat) ∨ W13.drew.heap.size ≤ j) => (show Fresh OI W9 w14 v14 (u ++ [(d : Int)]) from by
                              refine ⟨S14, h1, fun j hj => ?_, below_only hb13.out.drew h2 hz13.out HS0.out.2⟩
                              have hz := hz13.out
                              rcases h3 j hj with h | h | h
                              · exact HS0.out.2 j h
                              · cases h
                              · have h : W13.heap.size ≤ j := h
                                omega))
                            clear hW13 hS0 hS0b hbel0 e1 e4 e6 hcl
                            go_region_held3 (fun w' => w'.cell? ⟨b0, 0, none⟩ = some (.pointer (some ⟨bx, 0, none⟩))) ((refine hsc.out _ ?_; repeat' (first | with_reducible exact hb13.out | with_reducible exact Hb14.out | with_reducible refine Below.draws ?_ _ | with_reducible refine Below.drew ?_ | with_reducible refine Below.alloc ?_ ?_ _ | exact hz13.out))) (first
                              | (go_at_call 103; refine (Calls.mono (hcl2.out _ Hb14.out) ?_); rintro e w' ⟨rfl, m2, rfl⟩)
                              | (refine step_push rfl (.tmp 164) (.tmp 166) 22 rfl oI.ok Try.underlying22 infoI64 rfl W13.drew HS0.out.1 (u := .int .i64 d) (d : Int) [] ⟨rfl, rfl⟩ (by simp) (by have := hlen.out; omega) (by have := hlen.out; unfold maxLen; omega) rfl rfl rfl ?_; intro v14 w14 S14 h1 h2 h3; obtain ⟨a14, n14, c14, rfl⟩ := h1.isSlice; have Hf14 := Lib.hid (hpush.out _ _ _ h1 h2 h3); have Hb14 := Lib.hid (show Below W9.heap.size W9 w14 from Hf14.out.bel); have s14 := hsc.out _ Hb14.out; clear h1 h2 h3))
                            all_goals go_wp2
                            all_goals
                              have hr1 := Lib.hid (show (u ++ [(d : Int)]).length = k + 1 ∧ nx = runN x 0 x.start.toNat (u ++ [(d : Int)]) from ⟨by rw [List.length_append, hu.out.1]; rfl, by rw [runN_snoc, Nat.zero_add, hu.out.1, ← hu.out.2, Hnxe.out]; rfl⟩)
                              have hr2 := Lib.hid (show GP (PreS x kind p) (u ++ [(d : Int)]) from by
                                have hul := hu.out.1
                                refine pre_step hG.out (by rw [hul]; exact hlt) hdb ?_ fun e he => ?_
                                · rw [hul, ← hu.out.2, ← Hnxe.out]
                                  exact hyc.out
                                · rw [hul, ← hu.out.2]
                                  exact hno.out e he)
                              refine ⟨⟨k + 1, _, nx, by go_num, by omega, rfl, ⟨_, _, _, rfl⟩, hr1, Lib.hid (Hf14.out.drewN OI.ok m2), hr2⟩, ?_⟩
                              simp [intOf]; omega
                      · have hkE3 : k = p := by omega
                        have hul := Lib.hid (show u.length = p from hu.out.1.trans hkE3)
                        have hLu := Lib.hid (pre_done hG.out hul.out)
                        have hcs := Lib.hid (show canN x kind p s from by have h1 := hLu.out.1.2.2; rw [hu.out.2]; exact h1)
                        have hsS := Lib.hid (show s < NS from by rw [HNS.out, hu.out.2]; exact hv.runLt (pre_digs hG.out) (by rw [hul.out]; have := HNX.out; have := HPN.out; omega) hnat.2.2.1)
                        obtain ⟨n11, D11, hm11, -, hF11⟩ := hL11.out.mp
                        obtain ⟨vf, f, hu11, hLf, hrf⟩ := hF11 s hsS.out hcs.out
                        obtain ⟨af, cf, rfl, z1, z2⟩ := hrf.isSlice
                        have hfl : f.length = errLen kind := hLf.1.1
                        obtain ⟨LN, hLN⟩ : ∃ n, n = (u ++ f).length := ⟨_, rfl⟩
                        have HLN := Lib.hid hLN
                        have hLN2 : 1 ≤ LN := by rw [hLN, List.length_append, hfl, ← HE.out]; omega
                        have hfin := Lib.hid (show ∀ (w' : World) (go co : Nat), Fresh OI W9 w' (.slice (some ⟨go, 0, none⟩) LN co) (u ++ f) → Calls Try.prog 156 #[.pointer (some ⟨bx, 0, none⟩), .int .i64 kind, .slice (some ⟨go, 0, none⟩) LN co, .int .i64 s, .int .i64 p, .slice ab nb cb] w' fun e w2 => ∃ a n c U, e = .returned (.slice (some a) n c) ∧ Below W9.heap.size W9 w2 ∧ Below w.heap.size w w2 ∧ LeastL (WrdS x kind p) U ∧ RdI (fun k => w.heap.size ≤ k ∧ k < w2.heap.size) w2 (.slice (some a) n c) U from fun w' go co hfr => by
                          have hLw := hL9.out.below hfr.bel
                          have hle : LN = p + errLen kind := by rw [HLN.out, List.length_append, hul.out, hfl]
                          have hbl := hfr.bel
                          obtain ⟨S, h1, h2, h3⟩ := hfr
                          have hzz := hLw.ls
                          have hz9 := hL9.out.ls
                          dsimp only at hzz hz9
                          rw [hle] at h1 ⊢
                          refine (implFinish hv Hko.out hLw.fa.box (Nat.le_refl _) hLw.fa.lt.2.2.2.2.2 (by show bm ≤ w'.heap.size; omega) (by rw [← HE.out]; exact hp) (by rw [← HNS.out]; exact hsS.out) hLw.fa.gr h1 (fun k hk => by have := h2 k hk; show bm ≤ k; omega) hul.out hfl hLf.1.2.1 hLf.1).mono ?_
                          rintro e w2 ⟨v', c, S', rfl, ho, hS', hon, hlc⟩
                          have hbw2 : Below w.heap.size w w2 := below_only hLw.bel hon (by omega) fun k hk => by have := h2 k hk; omega
                          obtain ⟨g, cg, rfl, -⟩ : ∃ g cg, v' = .slice (some ⟨g, 0, none⟩) (u ++ f ++ c).length cg ∧ True := by
                            rcases ho.shape with ⟨_, e⟩ | ⟨g, cg, e, _⟩
                            · exfalso
                              have h9 := congrArg List.length e
                              rw [List.length_append, ← HLN.out] at h9
                              simp at h9
                              omega
                            · exact ⟨g, cg, e, trivial⟩
                          refine ⟨_, _, _, u ++ (f ++ c), rfl, below_only hbl hon hbl.size h2, hbw2, least_word hLu.out (by rw [← hu.out.2]; exact hLf) (by rw [← hu.out.2]; exact hlc), ?_⟩
                          rw [← List.append_assoc]
                          refine OI.leads.to _ _ _ _ _ ho fun k hk => ⟨?_, OI.ok.lt ho k hk⟩
                          rcases hS' k hk with h | h
                          · have := h2 k h; omega
                          · omega)
                        have hsc := Lib.hid (fun (W : World) (hb : Below W9.heap.size W9 W) => (show W.cell? ⟨b0, 0, none⟩ = some (.pointer (some ⟨bx, 0, none⟩)) ∧ W.cell? ⟨b1, 0, none⟩ = some (.int .i64 kind) ∧ W.cell? ⟨b2, 0, none⟩ = some (.int .i64 p) ∧ W.cell? ⟨b5, 0, none⟩ = some (.slice ab nb cb) ∧ W.cell? ⟨bf, 0, none⟩ = some (.map (some bm)) from
                          ⟨(hL9.out.below hb).fa.c, (hL9.out.below hb).fa.k, (hL9.out.below hb).fa.pl, (hL9.out.below hb).fa.b, heap_cell (hL9.out.below hb).hf (i := 0) rfl⟩))
                        have hb11 := Lib.hid (show Below W9.heap.size W9 W11 from hf.out.bel)
                        have hlk : ∀ m, (Instr.lookup 155 (.map (some bm)) (.int .i64 s) false).run Try.prog (W11.drewN m) = .ok (.slice af f.length cf) (W11.drewN m) := fun m => Under.look (hm11.kept (w' := W11.drewN m) (grown_below (Below.draws (Below.refl _ _) m)) (by simp)) (by have := hsS.out; omega) hu11
                        have hlk1 : (Instr.lookup 155 (.map (some bm)) (.int .i64 s) false).run Try.prog W11.drew = .ok (.slice af f.length cf) W11.drew := hlk 1
                        have hff := Lib.hid (show Fresh OI W9 W11.drew (.slice a9 n9 c9) u from hf.out.drew OI.ok)
                        have hrd := Lib.hid (show RdI (fun k => Z ≤ k ∧ k < W11.heap.size) W11.drew (.slice af f.length cf) f from RdI.ok.keep hrf fun _ _ => rfl)
                        have hlen := Lib.hid (show u.length + f.length ≤ 20 from by rw [hul.out, hfl, ← HE.out]; omega)
                        obtain ⟨LF, hLF⟩ : ∃ n, n = f.length := ⟨_, rfl⟩
                        rw [← hLF] at hlk hlk1 hrd z1
                        obtain ⟨z0, zz1, zz2, zz3, zz4⟩ := hsc.out _ hb11.out
                        clear hkE3 hLN hLF hrf hm11 hF11 hu11 hfl hLf
                        go_upto_region 45 with fail
                        go_region_held3 (fun w' => w'.cell? ⟨b0, 0, none⟩ = some (.pointer (some ⟨bx, 0, none⟩)) ∧ w'.cell? ⟨b1, 0, none⟩ = some (.int .i64 kind) ∧ w'.cell? ⟨b2, 0, none⟩ = some (.int .i64 p) ∧ w'.cell? ⟨b5, 0, none⟩ = some (.slice ab nb cb) ∧ w'.cell? ⟨bf, 0, none⟩ = some (.map (some bm))) ((refine hsc.out _ ?_; repeat' (first | with_reducible exact hb11.out | with_reducible exact Hb14.out | with_reducible exact Hb15.out | with_reducible refine Below.draws ?_ _ | with_reducible refine Below.drew ?_))) (first
                          | (go_at_call 156; refine (Calls.mono (hfin.out _ _ _ Hf14.out) ?_); rintro e w15 ⟨a15, n15, c15, U, rfl, hb15, hq15⟩; have Hb15 := Lib.hid hb15; have Hq15 := Lib.hid hq15; clear hb15 hq15)
                          | (refine step_appendF rfl (.tmp 176) (.tmp 179) 22 rfl (f := fI) (fun _ => rfl) Try.underlying22 infoI64 rfl hff.out hrd.out (by have := hlen.out; omega) (by have := hlen.out; unfold maxLen; omega) rfl rfl ?_; intro v14 w14 hf14; obtain ⟨g14, c14, rfl⟩ := hf14.shape (by rw [← HLN.out]; exact hLN2); rw [← HLN.out] at hf14 ⊢; have Hf14 := Lib.hid hf14; have Hb14 := Lib.hid hf14.bel; clear hf14))
                        all_goals go_wp2
                        all_goals
                          refine bodyPost_ret (v := .slice (some a15) n15 c15) (by simp [results, Try.results106, go_sem]) rfl ?_
                          exact ⟨Hq15.out.1, .inr ⟨_, _, _, U, rfl, Hq15.out.2.1, Hq15.out.2.2⟩⟩
end Go.Proofs.Ytnpkanlieflbiaa
