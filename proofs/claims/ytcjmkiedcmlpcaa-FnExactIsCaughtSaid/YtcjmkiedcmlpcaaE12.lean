/- Numbers of beginnings and of words that lead two states to the end, walked: the reference's. -/
import Derived.Test.YtcjmkiedcmlpcaaE7
import Derived.Test.YtcjmkiedcmlpcaaE1
namespace Go.Proofs.Ytcjmkiedcmlpcaa
open Go.RowKit
set_option linter.unusedVariables false

/-- A slice of one row. -/
theorem Own.oneRow {w : World} {u : Value} {r : List Int} {T : List Nat} (hu : OI w u r T) : OII (w.alloc (.cells #[u] 23)) (.slice (some ⟨w.heap.size, 0, none⟩) 1 1) [r] (w.heap.size :: T) := by
  have hlt := OI.ok.lt hu
  refine .inr ⟨w.heap.size, 1, #[u], [T], rfl, heap_alloc_new w _, rfl, by simp, by unfold maxLen; omega, by simp, ?_, rfl, fun i hi => ?_⟩
  · exact List.nodup_cons.2 ⟨fun h => by have := hlt _ h; omega, OI.ok.nodup hu⟩
  · obtain rfl : i = 0 := by simpa using hi
    exact ⟨u, rfl, OI.ok.keep hu fun k hk => Below.heap_alloc w _ k (hlt k hk)⟩
theorem Grid.snoc {m r : Nat} {t : List (List Int)} {q : List Int} {f : Nat → Nat → Nat} (h : Grid m r t f) (hq : Row r q (f m)) : Grid (m + 1) r (t ++ [q]) f := by
  refine ⟨by rw [List.length_append, h.1]; rfl, fun j hj => ?_⟩
  by_cases e : j < m
  · rw [nth_append_left (by rw [h.1]; exact e)]; exact h.2 j e
  · obtain rfl : j = m := by omega
    have e2 := nth_append_last t q
    rw [h.1] at e2
    rw [e2]
    exact hq
theorem Row.grid1 {r : Nat} {q : List Int} {f : Nat → Nat → Nat} (h : Row r q (f 0)) : Grid 1 r [q] f := by
  refine ⟨rfl, fun j hj => ?_⟩
  obtain rfl : j = 0 := by omega
  exact h

set_option maxHeartbeats 3200000 in
set_option maxRecDepth 10000 in
theorem specBegins {B bx : Nat} {x : Chn} {w : World} (h : BoxC (· < B) w bx x) (hB : B ≤ w.heap.size) (hbx : bx < w.heap.size) (hv : VC x) :
    Calls Try.prog 107 #[.pointer (some ⟨bx, 0, none⟩)] w fun e w' => ∃ v, e = .returned v ∧ Fresh OII w w' v (gridL (x.n + 1) x.S (begV x)) := by
  have hnat := hv.nat
  have H := Lib.hid h
  have Hv := Lib.hid hv; clear hv
  obtain ⟨a, c, a', c', g0, g1, g2, g3, g4, g5, hu, hpp, ⟨h1, h2⟩, h3, h4⟩ := h.cells
  obtain ⟨NS, hNS⟩ : ∃ n : Nat, n = x.S := ⟨_, rfl⟩
  obtain ⟨NB, hNB⟩ : ∃ n : Nat, n = x.b := ⟨_, rfl⟩
  obtain ⟨NT, hNT⟩ : ∃ n : Nat, n = x.start.toNat := ⟨_, rfl⟩
  rw [show x.base = (NB : Int) by have := Hv.out.base; rw [hNB]; show x.base = (x.base.toNat : Int); omega] at g0
  rw [show x.states = (NS : Int) by have := Hv.out.states; rw [hNS]; show x.states = (x.states.toNat : Int); omega] at g1
  rw [show x.start = (NT : Int) by have := Hv.out.start; rw [hNT]; omega] at g2
  rw [← hNS, ← hNB, ← hNT] at hnat
  have HNS := Lib.hid hNS; clear hNS
  have HNB := Lib.hid hNB; clear hNB
  have HNT := Lib.hid hNT; clear hNT
  clear hu hpp h g3 g4
  unfold maxLen at h4
  simp only [Chn.n] at hnat
  have hmk2 := run_make_row' (P := Try.prog) 23 2 (.int .i64 0) 8 Try.underlying23 infoI64 rfl .i64 .i64 NS (by omega) (by omega)
  have hr0 := Own.made w 2 fI 0 NS (by unfold maxLen; omega)
  have hf0 : Fresh OII w ((w.alloc (.cells (madeCells #[fI 0] NS) 2)).alloc (.cells #[.slice (some ⟨w.heap.size, 0, none⟩) NS NS] 23)) (.slice (some ⟨w.heap.size + 1, 0, none⟩) 1 1) [List.replicate NS 0] := by
    have h := Own.oneRow hr0
    rw [alloc_size] at h
    exact ⟨_, h, fun k hk => by simp at hk; omega, ((Below.refl w.heap.size w).alloc (Nat.le_refl _) _).alloc (by rw [alloc_size]; omega) _⟩
  obtain ⟨gx, cx, hc, q1, q2, hc2, hfz, hge, hput⟩ := hf0.put2 (x := 0) (y := NT) (by simp) (by show NT < (List.replicate NS (0 : Int)).length; simp; omega)
  have hln0 : (nth [List.replicate NS (0 : Int)] 0).length = NS := by show (List.replicate NS (0 : Int)).length = NS; simp
  rw [hln0] at hc q1
  unfold maxLen at q2
  have hbel0 := hf0.bel
  have Hput := Lib.hid (fun w2 h2 => hput w2 h2 1)
  have hrow0 := Lib.hid (show Row NS ((List.replicate NS (0 : Int)).set NT 1) (begV x 0) from (Row.zeros NS).put (show NT < NS by omega) (by show (1 : Int) = ((if NT = x.start.toNat then 1 else 0 : Nat) : Int); rw [if_pos HNT.out]; rfl) (fun i hi hne => by show (if i = x.start.toNat then 1 else 0) = 0; rw [if_neg (by rw [← HNT.out]; exact hne)]))
  have hgrid0 := Lib.hid (show Grid 1 NS (set2 [List.replicate NS (0 : Int)] 0 NT 1) (begV x) from hrow0.out.grid1)
  obtain ⟨W1, hW1⟩ : ∃ W1, W1 = (w.alloc (.cells (madeCells #[fI 0] NS) 2)).alloc (.cells #[.slice (some ⟨w.heap.size, 0, none⟩) NS NS] 23) := ⟨_, rfl⟩
  rw [← hW1] at hc hc2 hfz Hput hbel0
  have e2 : W1.cell? ⟨bx, 2, none⟩ = some (.int .i64 NT) := (hbel0.cell (p := ⟨bx, 2, none⟩) hbx).trans g2
  have HW1 := Lib.hid hW1; clear hW1
  have Hbel0 := Lib.hid hbel0
  clear hput hf0 hr0 hln0 hrow0 hbel0
  go_enter Try.func107, Try.ntmps107
  go_wp2
  rw [← HW1.out]
  refine wp_region_quiet_tail_lit 8 (by kernel_rfl) (by kernel_rfl) ?_
  simp only [List.take_succ_cons, List.take_zero, List.drop_succ_cons, List.drop_zero]
  repeat (go_big_quiet_step (fail))
  refine wpQuiet_nil ?_
  rintro _ ⟨nq, rfl⟩
  have hf1 := Lib.hid (show Fresh OII w ((W1.drewN nq).setCell ⟨gx, NT, none⟩ (.int .i64 1)) _ _ from Hput.out (W1.drewN nq) (bel_draws rfl))
  go_wp2
  clear e2 hc hc2 hfz
  go_loopw [3, 4] (fun ov iv wr => ∃ (k go co : Nat) (t : List (List Int)), k ≤ x.places.length ∧ iv = .int .i64 k ∧ ov = .slice (some ⟨go, 0, none⟩) (k + 1) co ∧ Hid (Fresh OII w wr ov t) ∧ Hid (Grid (k + 1) NS t (begV x))) (fun _ iv _ => x.places.length - (intOf iv).toNat)
  case atStart => exact ⟨0, _, _, _, Nat.zero_le _, rfl, rfl, hf1, hgrid0⟩
  case round =>
    clear hf1 hgrid0 Hput Hbel0
    obtain ⟨k, go, co, t, hk, rfl, rfl, hf, hg⟩ := hrel
    obtain ⟨W2, rfl⟩ : ∃ W2, W2 = wr := ⟨_, rfl⟩
    have e5 : W2.cell? ⟨bx, 5, none⟩ = some (.slice a' x.places.length c') := (hf.out.bel.cell (p := ⟨bx, 5, none⟩) hbx).trans g5
    have htl := hg.out.1
    by_cases hlt : k < x.places.length
    · have e1 : W2.cell? ⟨bx, 1, none⟩ = some (.int .i64 NS) := (hf.out.bel.cell (p := ⟨bx, 1, none⟩) hbx).trans g1
      have hb2 : bx < W2.heap.size := by have := hf.out.bel.size; omega
      have hbox2 := Lib.hid (H.out.below hf.out.bel hB hbx)
      have hrd2 := Lib.hid (hf.out.rd OII.leads OII.ok)
      have hfr := Lib.hid (show Fresh OI W2 (W2.alloc (.cells (madeCells #[.int .i64 0] NS) 2)) (.slice (some ⟨W2.heap.size, 0, none⟩) NS NS) (List.replicate NS 0) from Fresh.made (Below.refl _ _) 2 fI 0 NS (by unfold maxLen; omega))
      have hr2 := Lib.hid ((Row.zeros NS).congr (fun y _ => (begP_start x k y).symm))
      go_wp2
      go_loopw [6] (fun sv wr => ∃ (s : Nat) (r : List Int), s ≤ NS ∧ sv = .int .i64 s ∧ Hid (Fresh OI W2 wr (.slice (some ⟨W2.heap.size, 0, none⟩) NS NS) r) ∧ Hid (Row NS r (begP x k s 0))) (fun sv _ => NS - (intOf sv).toNat)
      case atStart => exact ⟨0, _, Nat.zero_le _, rfl, hfr, hr2⟩
      case round =>
        clear hfr hr2 e1
        obtain ⟨s, r, hs, rfl, hfr, hr⟩ := hrel
        obtain ⟨W3, rfl⟩ : ∃ W3, W3 = wr := ⟨_, rfl⟩
        have e1 : W3.cell? ⟨bx, 1, none⟩ = some (.int .i64 NS) := (hfr.out.bel.cell (p := ⟨bx, 1, none⟩) hb2).trans ((hf.out.bel.cell (p := ⟨bx, 1, none⟩) hbx).trans g1)
        by_cases hls : s < NS
        · go_wp2
          go_loopw [7] (fun dv wr => ∃ (d : Nat) (r : List Int), d ≤ NB ∧ dv = .int .i64 d ∧ Hid (Fresh OI W2 wr (.slice (some ⟨W2.heap.size, 0, none⟩) NS NS) r) ∧ Hid (Row NS r (begP x k s d))) (fun dv _ => NB - (intOf dv).toNat)
          case atStart => exact ⟨0, _, Nat.zero_le _, rfl, hfr, hr⟩
          case round =>
            clear hfr hr e1
            obtain ⟨d, r, hd, rfl, hfr, hr⟩ := hrel
            obtain ⟨W4, rfl⟩ : ∃ W4, W4 = wr := ⟨_, rfl⟩
            have e0 : W4.cell? ⟨bx, 0, none⟩ = some (.int .i64 NB) := (hfr.out.bel.cell (p := ⟨bx, 0, none⟩) hb2).trans ((hf.out.bel.cell (p := ⟨bx, 0, none⟩) hbx).trans g0)
            by_cases hld : d < NB
            · have hkn : k < x.n := by show k < x.places.length; omega
              have hsS : s < x.S := by rw [← HNS.out]; exact hls
              have hdb : d < x.b := by rw [← HNB.out]; exact hld
              have hnx := (Hv.out.cellN hkn hsS hdb).2
              have hcl := Lib.hid (fun m => specNext ((hbox2.out.below hfr.out.bel (by have := hf.out.bel.size; omega) hb2).draws m) Hv.out k s d hkn hsS hdb)
              have hbp := begP_le Hv.out (d := d) hkn hsS (by omega) hnx
              have hbl := Hv.out.begLe (k := k) (s := s) (by omega) hsS
              rw [← HNS.out] at hnx
              obtain ⟨a0, a1, a2, a3, a4⟩ := hfr.out.put1 (fun _ => rfl) (i := nxt x k s d) (by rw [hr.out.1]; exact hnx)
              have hv1 : nth r (nxt x k s d) = (begP x k s d (nxt x k s d) : Nat) := hr.out.2 _ hnx
              have hrn := Lib.hid (hr.out.put (g := begP x k s (d + 1)) hnx (z := (begP x k s d (nxt x k s d) : Int) + begV x k s) (by rw [begP_succ, if_pos rfl]; omega) (fun i hi hne => by rw [begP_succ, if_neg (fun h => hne h.symm)]; omega))
              have Hput := Lib.hid (fun (w2 : World) (hb2 : Below W4.heap.size W4 w2) (z : Int) => (a4 w2 hb2 z : Fresh OI W2 (w2.setCell ⟨W2.heap.size, nxt x k s d, none⟩ (.int .i64 z)) _ _))
              have hrd4 := RdII.ok.keep hrd2.out (w' := W4) fun j hj => hfr.out.bel.block j hj
              obtain ⟨b3, o3, a3', c3, ea, _, hc3, q3, q4, hr3⟩ := Rd.row hrd4 (x := k) (by omega)
              rw [(hg.out.2 k (by omega)).1] at hc3 q3
              obtain ⟨b4, o4, u4, rfl, _, hc4, rfl⟩ := Rd.elim hr3 s (by rw [(hg.out.2 k (by omega)).1]; exact hls)
              rw [(hg.out.2 k (by omega)).2 s hls] at hc4
              simp only [Option.some.injEq, Addr.mk.injEq, and_true] at ea
              obtain ⟨rfl, rfl⟩ := ea
              have hc5 : W4.cell? ⟨go, k, none⟩ = some (.slice (some ⟨b4, o4, none⟩) NS c3) := by have h := hc3; rwa [Nat.zero_add] at h
              have hc6 : W4.cell? ⟨b4, o4 + s, none⟩ = some (.int .i64 (begV x k s : Nat)) := hc4
              rw [hv1] at a0
              have a0' : W4.cell? ⟨W2.heap.size, nxt x k s d, none⟩ = some (.int .i64 (begP x k s d (nxt x k s d) : Nat)) := a0
              unfold maxLen at q4
              clear a0 a4 hv1 hkn hsS hdb hrd4 hr3 hc3 hc4 hfr hr
              generalize begP x k s d (nxt x k s d) = P at *
              generalize hNX : nxt x k s d = nx at *
              have HNX := Lib.hid hNX; clear hNX
              generalize begV x k s = E at *
              go_wp2
              have w2 : IntKind.i64.wrap ((P : Int) + E) = (P : Int) + E := IntWalk.i64_in _ (by omega)
              have w5 : (0 : Int) ≤ (s : Int) := by omega
              have w6 : (s : Int) < (NS : Int) := by omega
              have w7 : (0 : Int) ≤ (k : Int) := by omega
              have w8 : (k : Int) < ((k : Int) + 1) := by omega
              have w10 : (0 : Int) ≤ (nx : Int) := by omega
              have w11 : (nx : Int) < (NS : Int) := by omega
              refine wp_region_quiet_tail_lit 17 (by kernel_rfl) (by kernel_rfl) ?_
              simp only [List.take_succ_cons, List.take_zero, List.drop_succ_cons, List.drop_zero]
              repeat (go_big_quiet_step (with_reducible exact quiet_draws (hcl.out _)))
              refine wpQuiet_nil ?_
              rintro _ ⟨nq, rfl⟩
              have hf5 := Lib.hid (Hput.out (W4.drewN nq) (bel_draws rfl) ((P : Int) + E))
              go_wp2
              go_roundw
              case rel => exact ⟨d + 1, _, by omega, by go_num, hf5, hrn⟩
              case measure => simp [intOf]; omega
            · obtain rfl : d = NB := by omega
              have hr3 := Lib.hid (show Row NS r (begP x k (s + 1) 0) from hr.out.congr (fun y _ => by rw [HNB.out]; exact begP_next x k s y))
              go_wp2
              go_roundw
              case rel => exact ⟨s + 1, _, by omega, by go_num, hfr, hr3⟩
              case measure => simp [intOf]; omega
        · obtain ⟨hsn⟩ : Nonempty (s = NS) := ⟨by omega⟩
          have hr3 := Lib.hid (show Row NS r (begV x (k + 1)) from by rw [hsn] at hr; exact hr.out.congr (fun y _ => by rw [HNS.out]; exact begP_end x k y))
          obtain ⟨So, ho1, ho2, ho3⟩ := hf.out
          obtain ⟨Sr, hr1, hr2, hr4⟩ := hfr.out
          have hown := Lib.hid (OII.ok.keep ho1 (w' := W3) fun j hj => hr4.block j (OII.ok.lt ho1 j hj))
          have Hr1 := Lib.hid hr1
          have hdis := Lib.hid (show ∀ j ∈ Sr, j ∉ So from fun j hj hm => by have := OII.ok.lt ho1 j hm; have := hr2 j hj; omega)
          have hlo := Lib.hid ho2
          have hlr := Lib.hid (show ∀ j ∈ Sr, w.heap.size ≤ j from fun j hj => Nat.le_trans hf.out.bel.size (hr2 j hj))
          have hbl := Lib.hid (hf.out.bel.trans (hr4.mono hf.out.bel.size))
          have hgs := Lib.hid (show Grid (k + 1 + 1) NS (t ++ [r]) (begV x) from hg.out.snoc hr3.out)
          have hln : t.length ≤ 21 := by omega
          clear ho1 ho2 ho3 hr1 hr2 hr4 hsn
          go_wp2_with (at_builtin; refine wpList_push rfl _ _ 41 rfl OI.ok Try.underlying41 infoSl' rfl hown.out Hr1.out hdis.out (by omega) (by unfold maxLen; omega) rfl rfl ?_; intro v1 w1 S1 hown1 honly1 hS1)
          have hnew := Lib.hid (show Fresh OII w w1 v1 (t ++ [r]) from ⟨S1, hown1, fun j hj => by
            rcases hS1 j hj with h | h | h
            · exact hlo.out j h
            · exact hlr.out j h
            · exact Nat.le_trans hbl.out.size h, below_only hbl.out honly1 hbl.out.size fun j hj => hlo.out j hj⟩)
          clear hown1 honly1 hS1
          obtain ⟨g9, c9, rfl⟩ : ∃ g c, v1 = .slice (some ⟨g, 0, none⟩) (k + 1 + 1) c := by
            obtain ⟨g, c, e⟩ := hnew.out.shape (by rw [hgs.out.1]; omega)
            rw [hgs.out.1] at e
            exact ⟨g, c, e⟩
          go_roundw
          case rel => exact ⟨k + 1, _, _, _, by omega, by go_num, rfl, hnew, hgs⟩
          case measure => simp [intOf]; omega
    · obtain ⟨hkn⟩ : Nonempty (k = x.places.length) := ⟨by omega⟩
      have e := Lib.hid (show t = gridL (x.n + 1) x.S (begV x) by rw [hkn, HNS.out] at hg; exact hg.out.eq)
      clear hkn
      go_wp2
      go_ret
      exact ⟨_, rfl, by rw [← e.out]; exact hf.out⟩
end Go.Proofs.Ytcjmkiedcmlpcaa
