/- The first undetected error: impl.FirstUndetected, walked from firstAt's contract. -/
import Derived.Test.YtnpkanlieflbiaaFu10
import Derived.Test.YtnpkanlieflbiaaV6
import Derived.Lib.QuietBelow
import Derived.BigQuiet
namespace Go.Proofs.Ytnpkanlieflbiaa
open Go.RowKit Go.Sort
set_option linter.unusedVariables false

theorem neNil (w : World) (a : Option Addr) (n c : Nat) : (binOp .neq 22 (.slice a n c) (.slice none 0 0)).run Try.prog w = .ok (.bool (!a.isNone)) w := run_neq_slice_nil w 22 2 a n c Try.underlying22
/-- What firstAt is to answer. -/
def FirstAtC : Prop := ∀ (B bx : Nat) (x : Chn) (w : World) (kind : Int) (place : Nat), BoxC (· < B) w bx x → B ≤ w.heap.size → bx < w.heap.size → VC x → kindOk kind x.base = true → place + errLen kind ≤ x.n →
  Calls Try.prog 106 #[.pointer (some ⟨bx, 0, none⟩), .int .i64 kind, .int .i64 place] w fun e w' => Below w.heap.size w w' ∧
    (((∀ u, ¬ WrdS x kind place u) ∧ e = .returned (.slice none 0 0)) ∨ ∃ a n c u, e = .returned (.slice (some a) n c) ∧ LeastL (WrdS x kind place) u ∧ RdI (fun k => w.heap.size ≤ k ∧ k < w'.heap.size) w' (.slice (some a) n c) u)

set_option maxHeartbeats 3200000 in
set_option maxRecDepth 100000 in
theorem implFirstUndetectedH (hfa : FirstAtC) {B : Nat} {v : Value} {x : Chn} {w : World} (h : RdC (· < B) w v x) (hB : B ≤ w.heap.size) (hn : szC x ≤ 1048576) (kind : Int) :
    Calls Try.prog 52 #[v, .int .i64 kind] w fun e w' => e = .returned (.tuple #[.string (fuW x kind), .string (fuV x kind), .bool (fuB x kind)]) ∧ Below w.heap.size w w' := by
  have Hfa := Lib.hid hfa; clear hfa
  have hen := eqNil
  have hnn := neNil
  have Hr := Lib.hid h
  obtain ⟨u, p, rfl, hu, hp⟩ := h
  obtain ⟨a, c, rfl, h1, h2⟩ := hu.isSlice
  obtain ⟨a', c', rfl, h3, h4⟩ := hp.isSlice
  have hbx := Lib.hid ((Below.refl w.heap.size w).alloc (Nat.le_refl _) (.cells #[.int .i64 x.base, .int .i64 x.states, .int .i64 x.start, .int .i64 x.stop, .slice a x.tables.length c, .slice a' x.places.length c'] 28))
  have Hbx := Lib.hid (BoxC.boxed hu hp hB); clear hu hp
  have hsz := Lib.hid (alloc_size w (.cells #[.int .i64 x.base, .int .i64 x.states, .int .i64 x.start, .int .i64 x.stop, .slice a x.tables.length c, .slice a' x.places.length c'] 28))
  have hb1 := Lib.hid (heap_alloc_new w (.cells #[.int .i64 x.base, .int .i64 x.states, .int .i64 x.start, .int .i64 x.stop, .slice a x.tables.length c, .slice a' x.places.length c'] 28))
  unfold aggC
  unfold maxLen at h4
  cases hv : vC x
  · have hr := Lib.hid (fu_no (fu_v (kind := kind) hv))
    have Hv := Lib.hid hv; clear hv
    go_enter Try.func52, Try.ntmps52
    go_wp2_with fail
    refine (implValidChain (Rd.below RdC.ok Hr.out (hbx.out.mono hB)) (by rw [hsz.out]; omega) hn _ Hv.out).mono ?_
    rintro e w1 ⟨rfl, hb⟩
    have Hb := Lib.hid (hbx.out.trans (hb.mono (by rw [hsz.out]; omega))); clear hb
    go_wp2
    refine bodyPost_ret (v := .tuple #[.string ⟨#[]⟩, .string ⟨#[]⟩, .bool false]) (by simp [results, Try.results52, go_sem]) rfl ?_
    exact ⟨by rw [hr.out.1, hr.out.2.1, hr.out.2.2], Hb.out⟩
  have hvc := vC_iff.1 hv
  have hel := errLen_bd kind
  have hpl := hvc.places
  have hnn2 : x.places.length ≤ 1048576 := by omega
  have Hv := Lib.hid hv
  have Hvc := Lib.hid hvc
  cases hko : kindOk kind x.base
  · have hr := Lib.hid (fu_no (fu_k (x := x) hko))
    have Hko := Lib.hid hko
    clear hv hvc hko
    go_enter Try.func52, Try.ntmps52
    go_wp2_with fail
    refine (implValidChain (Rd.below RdC.ok Hr.out (hbx.out.mono hB)) (by rw [hsz.out]; omega) hn _ Hv.out).mono ?_
    rintro e w1 ⟨rfl, hb⟩
    have hc0 := heap_cell (hf_heap hb hb1.out) (i := 0) rfl
    have Hb := Lib.hid (hbx.out.trans (hb.mono (by rw [hsz.out]; omega))); clear hb
    go_wp2_with (go_at_call 90; refine (implKindOk _ _ _ Hko.out _).mono ?_; rintro e w' ⟨rfl, rfl⟩)
    refine bodyPost_ret (v := .tuple #[.string ⟨#[]⟩, .string ⟨#[]⟩, .bool false]) (by simp [results, Try.results52, go_sem]) rfl ?_
    exact ⟨by rw [hr.out.1, hr.out.2.1, hr.out.2.2], Hb.out⟩
  have Hko := Lib.hid hko
  have hk10 := Lib.hid (show kind = 5 → 10 ≤ x.b from fun h5 => by
    have hko' := hko
    simp only [kindOk, inB_true, Bool.and_eq_true, Bool.or_eq_true, decide_eq_true_eq] at hko'
    rcases hko'.2 with h | h
    · exact absurd h5 h
    · show 10 ≤ x.base.toNat; omega)
  have hk5 := Lib.hid (show 0 ≤ kind ∧ kind ≤ 5 by
    have hko' := hko
    simp only [kindOk, inB_true, Bool.and_eq_true] at hko'
    exact hko'.1)
  obtain ⟨NP, hNP⟩ : ∃ k, k = x.places.length := ⟨_, rfl⟩
  have HNP := Lib.hid (show NP = x.n from hNP)
  rw [← hNP] at h3 hbx Hbx hsz hb1 hpl hnn2 Hr ⊢
  obtain ⟨n, hn'⟩ : ∃ n, n = errLen kind := ⟨_, rfl⟩
  have hLP := Lib.hid (fun W => implLastPlace NP hnn2 kind W)
  rw [← hn'] at hel hLP
  have Hn := Lib.hid hn'
  clear hv hvc hko hNP hn'
  go_enter Try.func52, Try.ntmps52
  go_wp2_with fail
  refine (implValidChain (Rd.below RdC.ok Hr.out (hbx.out.mono hB)) (by rw [hsz.out]; omega) hn _ Hv.out).mono ?_
  rintro e w1 ⟨rfl, hb⟩
  have hx1 := Lib.hid (hf_heap hb hb1.out)
  have hlt1 : w.heap.size < w1.heap.size := by have := hb.size; rw [hsz.out] at this; omega
  have HB1 := Lib.hid (Hbx.out.keep fun k hk => hb.block k (by rw [hsz.out]; omega))
  have Hb := Lib.hid (hbx.out.trans (hb.mono (by rw [hsz.out]; omega)))
  have hc0 := heap_cell hx1.out (i := 0) rfl
  clear hb hb1 hsz hbx Hbx
  go_wp2_with (go_at_call 90; refine (implKindOk _ _ _ Hko.out _).mono ?_; rintro e w' ⟨rfl, rfl⟩)
  clear hc0
  go_loopw [7, 8] (fun bv pv wr => ∃ p : Nat, (p = 0 ∨ p + n ≤ NP + 1) ∧ pv = .int .i64 p ∧ Hid (Below w1.heap.size w1 wr) ∧ ((Hid (NoneTo x kind p) ∧ bv = .slice none 0 0) ∨ ∃ a m c u, bv = .slice (some a) m c ∧ Hid (WrdTo x kind p u) ∧ Hid (RdI (fun k => w1.heap.size ≤ k ∧ k < wr.heap.size) wr bv u))) (fun _ pv _ => NP + 1 - (intOf pv).toNat)
  case atStart => exact ⟨0, .inl rfl, rfl, Lib.hid (Below.refl _ _), .inl ⟨Lib.hid (NoneTo.zero _ _), rfl⟩⟩
  case round =>
    obtain ⟨p, hp, rfl, hb, hst⟩ := hrel
    obtain ⟨W2, rfl⟩ : ∃ W, W = wr := ⟨_, rfl⟩
    have hx2 := below_heap hb.out hx1.out
    have c5 := heap_cell hx2 (i := 5) rfl
    have hl2 := heap_lt hx2
    have hsz2 := hb.out.size
    by_cases hlt : p + n ≤ NP
    · have hle : (p : Int) ≤ (NP : Int) - (n : Int) := by omega
      have hcl := Lib.hid (Hfa.out B w.heap.size x W2 kind p (HB1.out.below hb.out (by omega) hlt1) (by omega) hl2 Hvc.out Hko.out (by rw [← Hn.out, ← HNP.out]; exact hlt))
      have hpl2 := Lib.hid (show p + errLen kind ≤ x.n by rw [← Hn.out, ← HNP.out]; exact hlt)
      go_wp2_with (go_at_call 92; refine (Calls.mono (hLP.out _) ?_); rintro e w' ⟨rfl, rfl⟩)
      refine (Calls.mono hcl.out ?_)
      rintro e w3 ⟨hb3, hres⟩
      have Hb3 := Lib.hid (hb.out.trans (hb3.mono hb.out.size))
      have Hb23 := Lib.hid hb3
      clear c5 hx2 hcl hb3
      rcases hres with ⟨hno, rfl⟩ | ⟨a1, m1, c1, U, rfl, hLU, hRU⟩
      · have Hno := Lib.hid hno; clear hno
        rcases hst with ⟨hN, rfl⟩ | ⟨a2, m2, c2, u, rfl, hU, hR⟩
        · have hN2 := Lib.hid (hN.out.no Hno.out)
          go_wp2
          go_roundw
          case rel => exact ⟨p + 1, .inr (by omega), by go_num, Hb3, .inl ⟨hN2, rfl⟩⟩
          case measure => simp [intOf]; omega
        · have hU2 := Lib.hid (hU.out.no Hno.out)
          have hR2 := Lib.hid (rd_whole (P' := fun k => w1.heap.size ≤ k ∧ k < w3.heap.size) (W := w3) hR.out (fun k hk => ⟨hk.1, Nat.lt_of_lt_of_le hk.2 Hb23.out.size⟩) fun k hk => Hb23.out.block k hk.2)
          go_wp2
          go_roundw
          case rel => exact ⟨p + 1, .inr (by omega), by go_num, Hb3, .inr ⟨a2, m2, c2, u, rfl, hU2, hR2⟩⟩
          case measure => simp [intOf]; omega
      · have HLU := Lib.hid hLU
        have HRU := Lib.hid (rd_whole (P' := fun k => w1.heap.size ≤ k ∧ k < w3.heap.size) (W := w3) hRU (fun k hk => ⟨by have := hk.1; omega, hk.2⟩) fun _ _ => rfl)
        clear hLU hRU
        rcases hst with ⟨hN, rfl⟩ | ⟨a2, m2, c2, u, rfl, hU, hR⟩
        · have hU2 := Lib.hid (hN.out.first HLU.out)
          go_wp2
          go_roundw
          case rel => exact ⟨p + 1, .inr (by omega), by go_num, Hb3, .inr ⟨a1, m1, c1, U, rfl, hU2, HRU⟩⟩
          case measure => simp [intOf]; omega
        · have hR2 := Lib.hid (rd_whole (P' := fun k => w1.heap.size ≤ k ∧ k < w3.heap.size) (W := w3) hR.out (fun k hk => ⟨hk.1, Nat.lt_of_lt_of_le hk.2 Hb23.out.size⟩) fun k hk => Hb23.out.block k hk.2)
          have hul := Lib.hid (show U.length = x.n ∧ u.length = x.n from ⟨(wrd_ckd hpl2.out HLU.out.1).1, by
            obtain ⟨q, hq, hw⟩ := hU.out.1
            exact (wrd_ckd (by have := hpl2.out; omega) hw).1⟩)
          have hcm := Lib.hid (slCompare HRU.out hR2.out (by rw [hul.out.1, hul.out.2]) (by rw [hul.out.1, ← HNP.out]; omega))
          have hT := Lib.hid (fun hl => hU.out.take HLU.out hl)
          have hLv := Lib.hid (fun hl => hU.out.leave HLU.out hl)
          clear hU
          go_wp2_with fail
          refine (Calls.mono hcm.out ?_)
          rintro e w' ⟨r, rfl, hrl, rfl⟩
          cases hlx : lexL U u
          · have hr0 : ¬ r < 0 := fun h => by rw [hrl.1 h] at hlx; exact absurd hlx (by decide)
            have hU2 := Lib.hid (hLv.out hlx)
            clear hrl hlx hT hLv
            go_wp2
            go_roundw
            case rel => exact ⟨p + 1, .inr (by omega), by go_num, Hb3, .inr ⟨a2, m2, c2, u, rfl, hU2, hR2⟩⟩
            case measure => simp [intOf]; omega
          · have hr0 : r < 0 := hrl.2 hlx
            have hU2 := Lib.hid (hT.out hlx)
            clear hrl hlx hT hLv
            go_wp2
            go_roundw
            case rel => exact ⟨p + 1, .inr (by omega), by go_num, Hb3, .inr ⟨a1, m1, c1, U, rfl, hU2, HRU⟩⟩
            case measure => simp [intOf]; omega
    · have hle : ¬ (p : Int) ≤ (NP : Int) - (n : Int) := by omega
      have hkp := Lib.hid (show ∀ q, q < p ↔ q + errLen kind ≤ x.n from fun q => by rw [← Hn.out, ← HNP.out]; omega)
      rcases hst with ⟨hN, rfl⟩ | ⟨a2, m2, c2, u, rfl, hU, hR⟩
      · have hr := Lib.hid (fu_no (fu_none hN.out hkp.out))
        have Hbe := Lib.hid (Hb.out.trans (hb.out.mono Hb.out.size))
        go_wp2_with (go_at_call 92; refine (Calls.mono (hLP.out _) ?_); rintro e w' ⟨rfl, rfl⟩)
        refine bodyPost_ret (v := .tuple #[.string ⟨#[]⟩, .string ⟨#[]⟩, .bool false]) (by simp [results, Try.results52, go_sem]) rfl ?_
        exact ⟨by rw [hr.out.1, hr.out.2.1, hr.out.2.2], Hbe.out⟩
      · have hUA := Lib.hid (hU.out.all hkp.out)
        have huc := Lib.hid (show u.length = x.n ∧ Digs x.b u ∧ runN x 0 x.start.toNat u = x.stop.toNat from by
          obtain ⟨q, hq, hw⟩ := hUA.out.1
          exact wrd_ckd hq hw)
        obtain ⟨W3, hW3⟩ : ∃ W, W = W2.alloc (.cells #[.slice none 0 0] 22) := ⟨_, rfl⟩
        have hb23 := (Below.refl W2.heap.size W2).alloc (Nat.le_refl _) (.cells #[.slice none 0 0] 22)
        have hg3 := heap_alloc_new W2 (.cells #[.slice none 0 0] 22)
        rw [← hW3] at hb23 hg3
        have HW3 := Lib.hid hW3
        have hs3 : W3.heap.size = W2.heap.size + 1 := by rw [hW3]; exact alloc_size _ _
        have hbs : x.base = ((x.b : Nat) : Int) := by have := Hvc.out.base; show x.base = (x.base.toNat : Int); omega
        have Hb23 := Lib.hid hb23
        have hx3 := below_heap (hb.out.trans (hb23.mono hb.out.size)) hx1.out
        have c03 := heap_cell hx3 (i := 0) rfl
        have c02 := heap_cell hx2 (i := 0) rfl
        have Hbw3 := Lib.hid (show Below w.heap.size w W3 from (Hb.out.trans (hb.out.mono Hb.out.size)).trans (hb23.mono (Hb.out.trans (hb.out.mono Hb.out.size)).size))
        have hJ0 := Lib.hid (show JT x B w.heap.size W2.heap.size W3.heap.size [] W3 from ⟨HB1.out.below (hb.out.trans (hb23.mono hb.out.size)) (by omega) hlt1, by omega, _, hg3, .inl ⟨by simp, rfl⟩⟩)
        have hR3 := Lib.hid (rd_whole (P' := fun k => w1.heap.size ≤ k ∧ k < W2.heap.size) (W := W3) hR.out (fun k hk => hk) fun k hk => hb23.block k hk.2)
        have Hck := Lib.hid (show ∀ q t, q + errLen kind ≤ x.n → t ∈ chg kind x.b ((u.drop q).take (errLen kind)) → t.length = errLen kind ∧ Digs x.b (chW u t q (errLen kind)) ∧ (chW u t q (errLen kind)).length = x.n from fun q t hq ht => by
          have hlu := huc.out.1
          have hdg := huc.out.2.1
          have hlf : ((u.drop q).take (errLen kind)).length = errLen kind := by simp; omega
          have ht2 := chg_digs hk10.out Hvc.out.nat.1.1 (fun d hd => hdg d (List.mem_of_mem_drop (List.mem_of_mem_take hd))) hlf t ht
          refine ⟨ht2.2.trans hlf, ?_, ?_⟩
          · unfold chW
            exact digs_app.2 ⟨fun d hd => hdg d (List.mem_of_mem_take hd), digs_app.2 ⟨ht2.1, fun d hd => hdg d (List.mem_of_mem_drop hd)⟩⟩
          · unfold chW
            simp [ht2.2, hlf]; omega)
        have hwr := Lib.hid (implWrong (P := fun k => w1.heap.size ≤ k ∧ k < W2.heap.size) (w := W3) kind hk5.out x.b ⟨Hvc.out.nat.1.1, Hvc.out.nat.1.2⟩ (v := .slice (some a2) m2 c2) (ds := u) (by rw [huc.out.1, ← HNP.out]; omega) 109 #[.pointer (some ⟨w.heap.size, 0, none⟩), .pointer (some ⟨W2.heap.size, 0, none⟩)]
          (fun d w' => JT x B w.heap.size W2.heap.size W3.heap.size d w' ∧ RdI (fun k => w1.heap.size ≤ k ∧ k < W2.heap.size) w' (.slice (some a2) m2 c2) u ∧ (∀ y ∈ d, y.length = x.n) ∧ Below w.heap.size w w')
          hR3.out (fun k hk => by have := hk.2; omega)
          (fun w' hb' => ⟨hJ0.out.keep hb', RdI.ok.keep hR3.out fun k hk => hb'.block k (by have := hk.2; omega), by simp, Hbw3.out.trans (hb'.mono (by omega))⟩)
          (fun d w' w2 hJ hb' => ⟨hJ.1.keep hb', RdI.ok.keep hJ.2.1 fun k hk => hb'.block k (by have := hk.2; have := hJ.1.ls; omega), hJ.2.2.1, hJ.2.2.2.trans (hb'.mono hJ.2.2.2.size)⟩)
          (fun d w' hJ => hJ.2.1)
          (fun d q t hq ht v' w' hrv hJ => by
            have hcl := Hck.out q t (by rw [← huc.out.1]; exact hq) ht
            refine (implFU1 Hvc.out hJ.1 hrv hcl.2.1 hcl.2.2 hJ.2.2.1).mono ?_
            rintro e w2 ⟨rfl, h1, h2⟩
            have hls := hJ.1.ls
            refine ⟨rfl, ⟨h1, RdI.ok.keep hJ.2.1 fun k hk => h2.block k (by have := hk.2; omega) (by have := hk.2; omega), fun y hy => ?_, hJ.2.2.2.trans (h2.below (by omega) hJ.2.2.2.size)⟩, h2.kept (by omega)⟩
            rcases List.mem_append.1 hy with hy | hy
            · exact hJ.2.2.1 y hy
            · simp at hy; subst hy; exact hcl.2.2)
          (fun q t hq ht => (Hck.out q t (by rw [← huc.out.1]; exact hq) ht).1)
          (fun args w => rfl))
        rw [← hbs, huc.out.1] at hwr
        have Hs3 := Lib.hid hs3
        have hl3 := heap_lt hx3
        clear hW3 hb23 hg3 hs3 hbs hx2 hx3
        go_wp2_with (go_at_call 92; refine (Calls.mono (hLP.out _) ?_); rintro e w' ⟨rfl, rfl⟩)
        clear c02 c03
        refine (Calls.mono (by rw [← HW3.out]; exact hwr.out) ?_)
        rintro e w4 ⟨rfl, ⟨hJ4, hR4, -, hB4⟩, hs4⟩
        have hAE := Lib.hid (fun t => wr_er (t := t) hk10.out Hvc.out.nat.1.1 huc.out.2.1 huc.out.1 huc.out.2.2)
        obtain ⟨vt, hb4, hvt⟩ := hJ4.box
        rcases hvt with ⟨hno, rfl⟩ | ⟨y, a4, n4, c4, rfl, hy, hyr, hym, hyR⟩
        · obtain ⟨q, hq, t, ht⟩ := hUA.out.1
          have h9 := (hAE.out t).2 ⟨q, hq, ht⟩
          exact absurd h9.2 (hno t h9.1)
        have HA2 := Lib.hid (show All2 x kind u y from ⟨hUA.out, (hAE.out y).1 ⟨hy, hyr⟩, fun t ht => by
          have h9 := (hAE.out t).2 ht
          exact hym t h9.1 h9.2⟩)
        have hyd : Digs x.b y ∧ y.length = x.n := by
          unfold wrL at hy
          simp only [List.mem_flatMap, List.mem_range, List.mem_map] at hy
          obtain ⟨q, hq, t, ht, rfl⟩ := hy
          exact (Hck.out q t (by omega) ht).2
        have hb36 := Hvc.out.nat.1.2
        have hd36 : ∀ {z : List Int}, Digs x.b z → ∀ i, i < z.length → 0 ≤ nth z i ∧ nth z i < 36 := fun {z} hz i hi => by
          rw [nth_eq hi]
          have h9 := hz _ (List.getElem_mem hi)
          omega
        have hr := Lib.hid (fu_yes Hv.out Hko.out HA2.out)
        have hs3' := Hs3.out
        have c1 : ∀ d os, Calls Try.prog 111 #[.slice (some a2) m2 c2] (grow (redrawn w4 d) os) fun e w'' => e = .returned (.string (wordS u)) ∧ ∃ p : Regrown, w'' = grow (redrawn w4 p.d) p.os := fun d os => Calls.regrown_of (implWordOf (RdI.ok.keep hR4 fun k hk => (below_regrown w4 d os).block k (by have := hk.2; omega)) (fun k hk => by have := hk.2; have := (below_regrown w4 d os).size; omega) (by rw [huc.out.1]; have := HNP.out; omega) (hd36 huc.out.2.1))
        have c2' : ∀ d os, Calls Try.prog 111 #[.slice (some a4) n4 c4] (grow (redrawn w4 d) os) fun e w'' => e = .returned (.string (wordS y)) ∧ ∃ p : Regrown, w'' = grow (redrawn w4 p.d) p.os := fun d os => Calls.regrown_of (implWordOf (RdI.ok.keep hyR fun k hk => (below_regrown w4 d os).block k hk.2) (fun k hk => by have := hk.2; have := (below_regrown w4 d os).size; omega) (by rw [hyd.2]; have := HNP.out; omega) (hd36 hyd.1))
        have C1 := Lib.hid c1
        have C2 := Lib.hid c2'
        have k10 := cell_regrown (heap_cell hb4 (i := 0) rfl)
        have HB4 := Lib.hid hB4
        clear c1 c2' hJ4 hR4 hB4 hAE hb4 hy hyr hym hyR hyd hb36 hd36 hwr hJ0 hR3 hl3 Hs3 Hck HA2 hU hR hs3'
        go_wp2
        refine wp_region_quiet_below (by kernel_rfl) (by kernel_rfl) ?_
        repeat (go_big_quiet_step (first | with_reducible exact C1.out _ _ | with_reducible exact C2.out _ _))
        refine wpQuiet_nil ?_
        intro _ hw'
        obtain ⟨⟨dq, osq⟩, hw''⟩ := hw'
        subst hw''
        go_wp2
        refine bodyPost_ret (v := .tuple #[.string (wordS u), .string (wordS y), .bool true]) (by simp [results, Try.results52, go_sem]) rfl ?_
        exact ⟨by rw [hr.out.1, hr.out.2.1, hr.out.2.2], HB4.out.trans ((below_regrown w4 dq osq).mono HB4.out.size)⟩
end Go.Proofs.Ytnpkanlieflbiaa
/- The first undetected error, plainly: the least word in impl's way: marks of states, the least symbols, pairs of states. -/
namespace Go.Proofs.Ytnpkanlieflbiaa
open Go.RowKit
set_option linter.unusedVariables false

/-! ### The symbols before an error -/
/-- Can an error at place p be reached from this state at place k? -/
def canK (x : Chn) (kind : Int) (p k s : Nat) : Prop := ∃ u : List Int, u.length = p - k ∧ Digs x.b u ∧ canN x kind p (runN x k s u)
theorem canK_end {x : Chn} {kind : Int} {p s : Nat} : canK x kind p p s ↔ canN x kind p s := by
  constructor
  · rintro ⟨u, hu, _, h⟩
    rw [Nat.sub_self] at hu
    obtain rfl := List.length_eq_zero_iff.1 hu
    exact h
  · intro h
    exact ⟨[], by simp, (fun d hd => by cases hd), h⟩
theorem canK_step {x : Chn} {kind : Int} {p k s : Nat} (hk : k < p) : canK x kind p k s ↔ ∃ d, d < x.b ∧ canK x kind p (k + 1) (nxt x k s d) := by
  constructor
  · rintro ⟨u, hu, hd, h⟩
    match u, hu with
    | [], hu => simp at hu; omega
    | a :: u, hu =>
      have ha := hd a (by simp)
      refine ⟨a.toNat, by omega, u, by simp at hu; omega, fun d hd' => hd d (by simp [hd']), h⟩
  · rintro ⟨d, hd, u, hu, hdu, h⟩
    refine ⟨(d : Int) :: u, by simp; omega, ?_, h⟩
    intro e he
    rcases List.mem_cons.1 he with rfl | he
    · omega
    · exact hdu e he
section pre
variable {x : Chn} {kind : Int} {p : Nat} {u : List Int}
theorem pre_nil (h : canK x kind p 0 x.start.toNat) : GP (PreS x kind p) [] := by
  obtain ⟨a, ha, hd, h⟩ := h
  exact GP.nil (c := a) ⟨by omega, hd, h⟩
theorem pre_none (h : ¬ canK x kind p 0 x.start.toNat) : ∀ w, ¬ WrdS x kind p w := by
  rintro w ⟨v, a, f, t, c, hE, -, -⟩
  exact h ⟨a, by rw [hE.la]; omega, hE.da, hE.can⟩
theorem pre_digs (h : GP (PreS x kind p) u) : Digs x.b u := by
  obtain ⟨⟨c, hc, e⟩, _⟩ := h
  rw [← e]; exact fun d hd => hc.2.1 d (List.mem_of_mem_take hd)
theorem pre_rest {c : List Int} (hc : PreS x kind p c) (e : c.take u.length = u) : canK x kind p u.length (runN x 0 x.start.toNat u) := by
  refine ⟨c.drop u.length, by simp [hc.1], fun d hd => hc.2.1 d (List.mem_of_mem_drop hd), ?_⟩
  have h := hc.2.2
  rw [← List.take_append_drop u.length c, e, runN_append, Nat.zero_add] at h
  exact h
theorem pre_next {c : List Int} (hc : PreS x kind p c) (hl : u.length < p) (e : c.take u.length = u) : canK x kind p (u.length + 1) (nxt x u.length (runN x 0 x.start.toNat u) (nth c u.length).toNat) := by
  have h := pre_rest (u := c.take (u.length + 1)) hc (by rw [List.length_take, Nat.min_eq_left (by have := hc.1; omega)])
  rw [List.length_take, Nat.min_eq_left (by have := hc.1; omega), take_nth (by have := hc.1; omega), e, runN_snoc, Nat.zero_add] at h
  exact h
theorem pre_more (h : GP (PreS x kind p) u) (hl : u.length < p) : ∃ d, d < x.b ∧ canK x kind p (u.length + 1) (nxt x u.length (runN x 0 x.start.toNat u) d) := by
  obtain ⟨⟨c, hc, e⟩, _⟩ := h
  have h3 := hc.2.1 (nth c u.length) (nth_mem (by have := hc.1; omega))
  exact ⟨(nth c u.length).toNat, by omega, pre_next hc hl e⟩
theorem pre_step {d : Nat} (h : GP (PreS x kind p) u) (hl : u.length < p) (hd : d < x.b) (h1 : canK x kind p (u.length + 1) (nxt x u.length (runN x 0 x.start.toNat u) d))
    (h2 : ∀ e, e < d → ¬ canK x kind p (u.length + 1) (nxt x u.length (runN x 0 x.start.toNat u) e)) : GP (PreS x kind p) (u ++ [(d : Int)]) := by
  refine h.step (fun c hc => hc.1) hl ?_ fun c hc e hlt => ?_
  · obtain ⟨a, ha, hda, hca⟩ := h1
    refine ⟨u ++ [(d : Int)] ++ a, ⟨by simp; omega, digs_app.2 ⟨digs_app.2 ⟨pre_digs h, digs_one hd⟩, hda⟩, ?_⟩, ?_⟩
    · rw [runN_append, runN_snoc, Nat.zero_add, Nat.zero_add, List.length_append, List.length_singleton]; exact hca
    · rw [show u.length + 1 = (u ++ [(d : Int)]).length by simp, List.take_left]
  · have h3 := hc.2.1 (nth c u.length) (nth_mem (by have := hc.1; omega))
    exact h2 (nth c u.length).toNat (by omega) (pre_next hc hl e)
theorem pre_done (h : GP (PreS x kind p) u) (hl : u.length = p) : LeastL (PreS x kind p) u := h.done (fun c hc => hc.1) hl
end pre

/-! ### The symbols of an error -/
theorem frm_least {x : Chn} {kind : Int} {p s i : Nat} (hb : 1 ≤ x.b) (hi : i < x.b ^ errLen kind) (h1 : FrmS x kind p s (tup x.b (errLen kind) i)) (h2 : ∀ j, j < i → ¬ FrmS x kind p s (tup x.b (errLen kind) j)) : LeastL (FrmS x kind p s) (tup x.b (errLen kind) i) := by
  refine ⟨h1, fun v hv => ?_⟩
  obtain ⟨j, hj, rfl⟩ := tup_onto (errLen kind) v hv.1 hv.2.1
  rw [tup_lex hb _ _ _ hj hi]
  exact decide_eq_false fun hlt => h2 j hlt hv
theorem can_frm {x : Chn} {kind : Int} {p s : Nat} : canN x kind p s ↔ ∃ i, i < x.b ^ errLen kind ∧ FrmS x kind p s (tup x.b (errLen kind) i) := by
  constructor
  · rintro ⟨f, t, hl, hd, ht, hg⟩
    obtain ⟨j, hj, rfl⟩ := tup_onto (errLen kind) f hl hd
    exact ⟨j, hj, hl, hd, t, ht, hg⟩
  · rintro ⟨i, _, hl, hd, t, ht, hg⟩
    exact ⟨_, t, hl, hd, ht, hg⟩

/-! ### The symbols behind an error -/
/-- The pairs of states behind an error and u, from which the end can be reached. -/
def PairS (x : Chn) (kind : Int) (p s : Nat) (f u : List Int) (a b : Nat) : Prop := ∃ t, t ∈ chg kind x.b f ∧ a = runN x (p + errLen kind) (runN x p s f) u ∧ b = runN x (p + errLen kind) (runN x p s t) u ∧ 0 < bothV x (p + errLen kind + u.length) a b
section beh
variable {x : Chn} {kind : Int} {p s : Nat} {f u : List Int}
theorem beh_two {c : List Int} : BehS x kind p s f c ↔ ∃ t, t ∈ chg kind x.b f ∧ TwoS x (x.n - (p + errLen kind)) (p + errLen kind) (runN x p s f) (runN x p s t) c := Iff.rfl
theorem beh_len {c : List Int} (h : BehS x kind p s f c) : c.length = x.n - (p + errLen kind) := by
  obtain ⟨t, _, h1, _⟩ := h
  exact h1.len
theorem beh_digs (h : GP (BehS x kind p s f) u) : Digs x.b u := by
  obtain ⟨⟨c, ⟨t, _, hc, _⟩, e⟩, _⟩ := h
  rw [← e]; exact fun d hd => hc.dig d (List.mem_of_mem_take hd)
theorem beh_nil (h : FrmS x kind p s f) : GP (BehS x kind p s f) [] := by
  obtain ⟨_, _, t, ht, hg⟩ := h
  obtain ⟨c, h1, h2⟩ := good_iff.1 hg
  exact GP.nil (c := c) ⟨t, ht, h1, h2⟩
theorem both_next {k a b d : Nat} (hk : k < x.n) (hd : d < x.b) (h : 0 < bothV x (k + 1) (nxt x k a d) (nxt x k b d)) : 0 < bothV x k a b := by
  have h1 := twoS_pos.1 (show 0 < bothR x (x.n - (k + 1)) (k + 1) (nxt x k a d) (nxt x k b d) from h)
  obtain ⟨c, h2, h3⟩ := h1
  refine (twoS_pos (x := x) (r := x.n - k) (k := k) (s := a) (t := b)).2 ⟨(d : Int) :: c, ?_, ?_⟩
  all_goals
    rw [show x.n - k = (x.n - (k + 1)) + 1 by omega]
    refine Leads1.cons.2 ⟨by omega, ?_⟩
    first | exact h2 | exact h3
theorem pair_next {d : Nat} (hl : u.length < x.n - (p + errLen kind)) (hd : d < x.b) (hu : Digs x.b u) :
    (∃ c, BehS x kind p s f c ∧ c.take (u.length + 1) = u ++ [(d : Int)]) ↔ ∃ a b, PairS x kind p s f u a b ∧ 0 < bothV x (p + errLen kind + u.length + 1) (nxt x (p + errLen kind + u.length) a d) (nxt x (p + errLen kind + u.length) b d) := by
  have e1 : x.n - (p + errLen kind) - (u.length + 1) = x.n - (p + errLen kind + u.length + 1) := by omega
  constructor
  · rintro ⟨c, ⟨t, ht, hc⟩, e⟩
    have h1 := (two_next (x := x) (r := x.n - (p + errLen kind)) (k := p + errLen kind) (s := runN x p s f) (t := runN x p s t) hu hd hl).1 ⟨c, hc, e⟩
    rw [e1] at h1
    exact ⟨_, _, ⟨t, ht, rfl, rfl, both_next (by omega) hd h1⟩, h1⟩
  · rintro ⟨a, b, ⟨t, ht, rfl, rfl, _⟩, h1⟩
    have h2 := (two_next (x := x) (r := x.n - (p + errLen kind)) (k := p + errLen kind) (s := runN x p s f) (t := runN x p s t) hu hd hl).2 (by rw [e1]; exact h1)
    obtain ⟨c, hc, e⟩ := h2
    exact ⟨c, ⟨t, ht, hc⟩, e⟩
theorem beh_more (h : GP (BehS x kind p s f) u) (hl : u.length < x.n - (p + errLen kind)) : ∃ d, d < x.b ∧ ∃ a b, PairS x kind p s f u a b ∧ 0 < bothV x (p + errLen kind + u.length + 1) (nxt x (p + errLen kind + u.length) a d) (nxt x (p + errLen kind + u.length) b d) := by
  have hu := beh_digs h
  obtain ⟨⟨c, hc, e⟩, _⟩ := h
  have hcl := beh_len hc
  have h3 : 0 ≤ nth c u.length ∧ nth c u.length < x.b := by
    obtain ⟨t, _, h1, _⟩ := hc
    exact h1.dig (nth c u.length) (nth_mem (by omega))
  obtain ⟨z, hz⟩ := Int.eq_ofNat_of_zero_le h3.1
  exact ⟨z, by omega, (pair_next hl (by omega) hu).1 ⟨c, hc, by rw [take_nth (by omega), e, hz]⟩⟩
theorem beh_step {d : Nat} (h : GP (BehS x kind p s f) u) (hl : u.length < x.n - (p + errLen kind)) (hd : d < x.b)
    (h1 : ∃ a b, PairS x kind p s f u a b ∧ 0 < bothV x (p + errLen kind + u.length + 1) (nxt x (p + errLen kind + u.length) a d) (nxt x (p + errLen kind + u.length) b d))
    (h2 : ∀ e, e < d → ∀ a b, PairS x kind p s f u a b → ¬ 0 < bothV x (p + errLen kind + u.length + 1) (nxt x (p + errLen kind + u.length) a e) (nxt x (p + errLen kind + u.length) b e)) : GP (BehS x kind p s f) (u ++ [(d : Int)]) := by
  refine h.step (fun c hc => beh_len hc) hl ((pair_next hl hd (beh_digs h)).2 h1) fun c hc e hlt => ?_
  have hcl := beh_len hc
  have h3 : 0 ≤ nth c u.length ∧ nth c u.length < x.b := by
    obtain ⟨t, _, h1, _⟩ := hc
    exact h1.dig (nth c u.length) (nth_mem (by omega))
  obtain ⟨z, hz⟩ := Int.eq_ofNat_of_zero_le h3.1
  obtain ⟨a, b, h4, h5⟩ := (pair_next (d := z) hl (by omega) (beh_digs h)).1 ⟨c, hc, by rw [take_nth (by omega), e, hz]⟩
  exact h2 z (by omega) a b h4 h5
theorem pair_step {d : Nat} (hl : u.length < x.n - (p + errLen kind)) (hd : d < x.b) (a' b' : Nat) :
    PairS x kind p s f (u ++ [(d : Int)]) a' b' ↔ ∃ a b, PairS x kind p s f u a b ∧ a' = nxt x (p + errLen kind + u.length) a d ∧ b' = nxt x (p + errLen kind + u.length) b d ∧ 0 < bothV x (p + errLen kind + u.length + 1) a' b' := by
  have e1 : ∀ z, runN x (p + errLen kind) z (u ++ [(d : Int)]) = nxt x (p + errLen kind + u.length) (runN x (p + errLen kind) z u) d := fun z => by rw [runN_snoc]; rfl
  have e2 : p + errLen kind + (u ++ [(d : Int)]).length = p + errLen kind + u.length + 1 := by simp; omega
  constructor
  · rintro ⟨t, ht, ha, hb, h⟩
    rw [e1] at ha hb
    rw [e2] at h
    subst ha; subst hb
    exact ⟨_, _, ⟨t, ht, rfl, rfl, both_next (by omega) hd h⟩, rfl, rfl, h⟩
  · rintro ⟨a, b, ⟨t, ht, rfl, rfl, _⟩, rfl, rfl, h⟩
    exact ⟨t, ht, (e1 _).symm, (e1 _).symm, by rw [e2]; exact h⟩
theorem beh_done (h : GP (BehS x kind p s f) u) (hl : u.length = x.n - (p + errLen kind)) : LeastL (BehS x kind p s f) u := h.done (fun c hc => beh_len hc) hl
end beh
end Go.Proofs.Ytnpkanlieflbiaa
