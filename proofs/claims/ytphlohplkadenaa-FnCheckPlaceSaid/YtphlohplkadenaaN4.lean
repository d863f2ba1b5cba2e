/- PermutingOf: impl. -/
import Derived.Test.YtphlohplkadenaaN3
import Derived.Test.YtphlohplkadenaaF2
import Derived.Test.YtphlohplkadenaaV5
import Derived.Test.YtphlohplkadenaaS4
namespace Go.Proofs.Ytphlohplkadenaa
open Go.RowKit
set_option linter.unusedVariables false

/-- The first k are turned into remainders. -/
def redTo (m : Int) (l : List Int) (k : Nat) : List Int := (l.take k).map (fun z => z % m) ++ l.drop k
theorem redTo_len (m : Int) (l : List Int) (k : Nat) : (redTo m l k).length = l.length := by simp [redTo]; omega
theorem redTo_nth (m : Int) (l : List Int) {k i : Nat} (hk : k ≤ l.length) (hi : i < l.length) : nth (redTo m l k) i = if i < k then nth l i % m else nth l i := by
  unfold redTo
  by_cases h : i < k
  · rw [nth_append_left (by simp; omega), nth_map (by simp; omega), nth_take h, if_pos h]
  · rw [if_neg h, nth_eq (by simp; omega), nth_eq hi, List.getElem_append_right (by simp; omega)]
    simp only [List.length_map, List.length_take, List.getElem_drop]
    congr 1
    omega
theorem redTo_step {m : Int} {l : List Int} {k : Nat} (h : k < l.length) : (redTo m l k).set k (nth l k % m) = redTo m l (k + 1) := by
  refine ext_nth (by rw [List.length_set, redTo_len, redTo_len]) fun i hi => ?_
  rw [List.length_set, redTo_len] at hi
  rw [nth_set (by rw [redTo_len]; exact h), redTo_nth m l (by omega) hi, redTo_nth m l (by omega) hi]
  by_cases e : k = i
  · subst e; rw [if_pos rfl, if_pos (by omega)]
  · rw [if_neg e]
    by_cases e2 : i < k
    · rw [if_pos e2, if_pos (by omega)]
    · rw [if_neg e2, if_neg (by omega)]
theorem redTo_all (b : Nat) (m : Int) (wt : Int) (n : Nat) (hn : (n : Int) = m) : redTo m (weighL b wt) b = addsL b n wt := by
  unfold redTo
  rw [List.take_of_length_le (by rw [weighL_len]; omega), List.drop_of_length_le (by rw [weighL_len]; omega), List.append_nil]
  unfold weighL addsL
  rw [List.map_map, hn]
  rfl

def Prm.zero : Prm := ⟨0, 0, []⟩
def pofW (x : Wgt) : Prm := ⟨x.base, x.target, x.weights.map (addsL x.base.toNat x.base.toNat)⟩
def pofOk (x : Wgt) : Bool := vW x && (decide (x.modulus = x.base) && vP (pofW x))
def pofV (x : Wgt) : Prm := if pofOk x then pofW x else Prm.zero
theorem pofV_no {x : Wgt} (h : pofOk x = false) : pofV x = Prm.zero := by simp [pofV, h]
theorem pofV_yes {x : Wgt} (h : pofOk x = true) : pofV x = pofW x := by simp [pofV, h]
theorem szP_pofW (x : Wgt) (hb : x.base ≤ 36) (hn : x.weights.length ≤ 20) : szP (pofW x) ≤ 2000 := by
  have h : ∀ (L : List Int), cntL List.length (L.map (addsL x.base.toNat x.base.toNat)) ≤ L.length * 36 := fun L => by
    induction L with
    | nil => simp [cntL]
    | cons a L ih =>
      have hl := addsL_len x.base.toNat x.base.toNat a
      simp [cntL] at ih ⊢
      omega
  have h2 := h x.weights
  have h3 := Nat.mul_le_mul_right 36 hn
  show (x.weights.map (addsL x.base.toNat x.base.toNat)).length + cntL List.length (x.weights.map (addsL x.base.toNat x.base.toNat)) ≤ 2000
  rw [List.length_map]
  omega

theorem Only.heap {S : List Nat} {w w1 : World} (h : Only S w w1) {k : Nat} {o : Obj} (hk : w.heap[k]? = some o) (hS : k ∉ S) : w1.heap[k]? = some o := (h.block k (Array.getElem?_eq_some_iff.1 hk).1 hS).trans hk

set_option maxHeartbeats 1600000 in
set_option maxRecDepth 10000 in
theorem implPermutingOf {B : Nat} {v : Value} {x : Wgt} {w : World} (h : RdW (· < B) w v x) (hB : B ≤ w.heap.size) (hn : szW x ≤ 1048576) :
    Calls Try.prog 41 #[v] w fun e w' => ∃ v', e = .returned (.tuple #[v', .bool (pofOk x)]) ∧ Fresh OP w w' v' (pofV x) := by
  have Hr := Lib.hid h
  obtain ⟨u, rfl, hu⟩ := h
  obtain ⟨a, c, rfl, h1, h2⟩ := hu.isSlice
  have Hu := Lib.hid hu; clear hu
  unfold maxLen at h2
  have H2 := Lib.hid (two w (.cells #[.int .i64 x.base, .int .i64 x.modulus, .int .i64 x.target, .slice a x.weights.length c] 26) (.cells #[.int .i64 0, .int .i64 0, .slice none 0 0] 46))
  unfold aggW
  cases hv : vW x
  · have ho := Lib.hid (show pofOk x = false by simp [pofOk, hv])
    have hm := Lib.hid (pofV_no ho.out)
    have Hv := Lib.hid hv; clear hv
    go_enter Try.func41, Try.ntmps41
    go_wp2_with fail
    refine (implValidWeighting (Rd.below RdW.ok Hr.out (H2.out.2.2.2.mono hB)) (by rw [H2.out.2.2.1]; omega) hn _ Hv.out).mono ?_
    rintro e w1 ⟨rfl, hb⟩
    have hb2 := below_heap hb H2.out.2.1
    have d0 := heap_cell hb2 (i := 0) rfl
    have d1 := heap_cell hb2 (i := 1) rfl
    have d2 := heap_cell hb2 (i := 2) rfl
    have f0 := frozen_at hb2 0
    have f1 := frozen_at hb2 1
    have f2 := frozen_at hb2 2
    have Hbel := Lib.hid (H2.out.2.2.2.trans (hb.mono (by rw [H2.out.2.2.1]; omega)))
    clear hb hb2
    go_wp2
    refine bodyPost_ret (v := .tuple #[aggP Prm.zero (.slice none 0 0), .bool false]) (by simp [results, Try.results41, go_sem, aggP, Prm.zero, d0, d1, d2]) rfl ⟨_, by rw [ho.out], ?_⟩
    rw [hm.out]
    refine ⟨[], ⟨_, rfl, own_nil _⟩, by simp, ?_⟩
    refine Below.trans Hbel.out ?_
    repeat' (first | with_reducible exact Below.refl _ _ | with_reducible refine Below.alloc ?_ ?_ _ | with_reducible refine Below.setCell ?_ ?_ _ | with_reducible refine Below.drew ?_ | with_reducible refine Below.draws ?_ _ | omega | (simp; done) | (simp; omega))
  · have hvw := vW_iff.1 hv
    have hba := hvw.base
    have hln := hvw.len
    have hwt := Lib.hid hvw.weight
    have hmo := hvw.modulus
    have Hv := Lib.hid hv
    obtain ⟨NB, hNB⟩ : ∃ n : Nat, n = x.base.toNat := ⟨_, rfl⟩
    have eb : x.base = (NB : Int) := by omega
    have HNB := Lib.hid hNB
    have Heb := Lib.hid eb
    by_cases hmb : x.modulus = x.base
    · have ho := Lib.hid (show pofOk x = vP (pofW x) by simp [pofOk, hv, hmb])
      have hszp := Lib.hid (szP_pofW x hba.2 hln.2)
      have hmz := Lib.hid hmb
      rw [eb] at hba
      clear hv hvw hNB eb hmb
      go_enter Try.func41, Try.ntmps41
      go_wp2_with fail
      refine (implValidWeighting (Rd.below RdW.ok Hr.out (H2.out.2.2.2.mono hB)) (by rw [H2.out.2.2.1]; omega) hn _ Hv.out).mono ?_
      rintro e w1 ⟨rfl, hb⟩
      have hb1 := below_heap hb H2.out.1
      rw [hmz.out, Heb.out] at hb1
      have hb2 := Lib.hid (below_heap hb H2.out.2.1)
      have Hbel := Lib.hid (H2.out.2.2.2.trans (hb.mono (by rw [H2.out.2.2.1]; omega)))
      have hs1 : w.heap.size + 2 ≤ w1.heap.size := by have := hb.size; rw [H2.out.2.2.1] at this; exact this
      have Hu1 := Lib.hid (RdI.ok.keep Hu.out (w' := w1) fun k hk => Hbel.out.block k (by omega))
      have g0 := heap_cell hb1 (i := 0) rfl
      have g1 := heap_cell hb1 (i := 1) rfl
      have g2 := heap_cell hb1 (i := 2) rfl
      have g3 := heap_cell hb1 (i := 3) rfl
      have hA1 : w.heap.size < w1.heap.size := by omega
      have hBw : B ≤ w1.heap.size := by omega
      clear hb hb1
      go_wp2
      have hbp0 := Lib.hid (heap_alloc_new w1 (.cells #[.int .i64 NB, .int .i64 x.target, .slice none 0 0] 46))
      have hbl0 := Lib.hid (show Below w1.heap.size w1 (w1.alloc (.cells #[.int .i64 NB, .int .i64 x.target, .slice none 0 0] 46)) from (Below.refl _ _).alloc (Nat.le_refl _) _)
      have htk0 := Lib.hid (show (x.weights.take 0).map (addsL NB NB) = [] from rfl)
      go_loopw [28] (fun iv wr => ∃ (k : Nat) (ov : Value) (S : List Nat), k ≤ x.weights.length ∧ iv = .int .i64 k ∧ wr.heap[w1.heap.size]? = some (.cells #[.int .i64 NB, .int .i64 x.target, ov] 46 (0, 0)) ∧ OII wr ov ((x.weights.take k).map (addsL NB NB)) S ∧ Hid (∀ j ∈ S, w1.heap.size < j) ∧ Below w1.heap.size w1 wr) (fun iv _ => x.weights.length - (intOf iv).toNat)
      case atStart => exact ⟨0, _, [], Nat.zero_le _, rfl, hbp0.out, own_nil _, Lib.hid (by simp), hbl0.out⟩
      case round =>
        clear hbp0 hbl0 htk0
        obtain ⟨k, ov, S, hk, rfl, hbp, hown, hS, hbel⟩ := hrel
        obtain ⟨W2, rfl⟩ : ∃ W2, W2 = wr := ⟨_, rfl⟩
        have e0 : W2.cell? ⟨w.heap.size, 0, none⟩ = some (.int .i64 NB) := (hbel.cell (p := ⟨w.heap.size, 0, none⟩) hA1).trans g0
        have hs2 := hbel.size
        have hpb : w1.heap.size < W2.heap.size := heap_lt hbp
        by_cases hlt : k < x.weights.length
        · have hwk := hwt.out k hlt
          rw [hmz.out, Heb.out] at hwk
          have Hu2 := RdI.ok.keep Hu1.out (w' := W2) fun j hj => hbel.block j (by omega)
          obtain ⟨b3, o3, u3, rfl, hP3, hc3, rfl⟩ := Rd.elim Hu2 k hlt
          have hc4 : W2.cell? ⟨b3, o3 + k, none⟩ = some (.int .i64 (nth x.weights k)) := hc3
          have hcl := Lib.hid (implWeighed NB (by omega) (nth x.weights k) hwk.1 (by omega) W2)
          have Hown := Lib.hid hown
          have Hbp := Lib.hid hbp
          have Hbel := Lib.hid hbel
          have htk := Lib.hid (show (x.weights.take (k + 1)).map (addsL NB NB) = (x.weights.take k).map (addsL NB NB) ++ [addsL NB NB (nth x.weights k)] by rw [take_nth hlt, List.map_append]; rfl)
          have hln2 := Lib.hid (show ((x.weights.take k).map (addsL NB NB)).length ≤ 20 by simp; omega)
          have hpf := Lib.hid (fun (d : Nat) (hd : d < NB) => prodFacts (wt := nth x.weights k) (d := (d : Int)) (m := (NB : Int)) hwk.1 (by omega) (by omega) (by omega) (by omega))
          clear hc3 Hu2 hown hbp hbel hwk
          generalize nth x.weights k = wt at *
          go_wp2_with fail
          refine (Calls.mono hcl.out ?_)
          rintro e w3 ⟨v7, rfl, hf7⟩
          have hwl := weighL_len NB wt
          obtain ⟨g7, c7, rfl⟩ := hf7.shape (by omega)
          have hl7 := hf7.len1
          rw [hwl] at hl7 hf7 ⊢
          unfold maxLen at hl7
          have hrd0 := Lib.hid (show redTo (NB : Int) (weighL NB wt) 0 = weighL NB wt by simp [redTo])
          have Hf7 := Lib.hid (show Fresh OI W2 w3 (.slice (some ⟨g7, 0, none⟩) NB c7) (redTo (NB : Int) (weighL NB wt) 0) by rw [hrd0.out]; exact hf7)
          have g0' : W2.cell? ⟨w.heap.size, 0, none⟩ = some (.int .i64 NB) := e0
          have hA2 : w.heap.size < W2.heap.size := by omega
          clear hf7 hc4 e0 hrd0
          go_wp2
          go_loopw [38] (fun dv wr => ∃ d : Nat, d ≤ NB ∧ dv = .int .i64 d ∧ Hid (Fresh OI W2 wr (.slice (some ⟨g7, 0, none⟩) NB c7) (redTo (NB : Int) (weighL NB wt) d))) (fun dv _ => NB - (intOf dv).toNat)
          case atStart => exact ⟨0, Nat.zero_le _, rfl, Hf7⟩
          case round =>
            clear Hf7
            obtain ⟨d, hd, rfl, hf⟩ := hrel
            obtain ⟨W4, rfl⟩ : ∃ W4, W4 = wr := ⟨_, rfl⟩
            by_cases hld : d < NB
            · have e0 : W4.cell? ⟨w.heap.size, 0, none⟩ = some (.int .i64 NB) := (hf.out.bel.cell (p := ⟨w.heap.size, 0, none⟩) hA2).trans g0'
              obtain ⟨a0, a1, a2, a3, a4⟩ := hf.out.put1 (fun _ => rfl) (i := d) (by rw [redTo_len, hwl]; exact hld)
              rw [redTo_nth _ _ (by rw [hwl]; omega) (by rw [hwl]; exact hld), if_neg (by omega), weighL_at wt hld] at a0
              have a0' : W4.cell? ⟨g7, d, none⟩ = some (.int .i64 (wt * (d : Int))) := a0
              have hst := Lib.hid (show (redTo (NB : Int) (weighL NB wt) d).set d (wt * (d : Int) % (NB : Int)) = redTo (NB : Int) (weighL NB wt) (d + 1) by
                rw [← redTo_step (by rw [hwl]; exact hld), weighL_at wt hld])
              have Hput := Lib.hid (fun w2 h2 => (a4 w2 h2 (wt * (d : Int) % (NB : Int)) : Fresh OI W2 (w2.setCell ⟨g7, d, none⟩ (.int .i64 (wt * (d : Int) % (NB : Int)))) _ _))
              rw [hst.out] at Hput
              obtain ⟨f1, f2, f3, f4, f5⟩ := hpf.out d hld
              have hm1 : ¬ (NB : Int) = 0 := by omega
              have hm0 : ¬ NB = 0 := by omega
              have d0 : (0 : Int) ≤ (d : Int) := by omega
              have d1 : (d : Int) < (NB : Int) := by omega
              clear a0 a4 f1
              go_wp2
              refine wp_region_quiet_tail_lit 8 (by kernel_rfl) (by kernel_rfl) ?_
              simp only [List.take_succ_cons, List.take_zero, List.drop_succ_cons, List.drop_zero]
              repeat (go_big_quiet_step (fail))
              refine wpQuiet_nil ?_
              rintro _ ⟨nq, rfl⟩
              have hf5 := Lib.hid (Hput.out (W4.drewN nq) (by exact ⟨rfl, rfl, rfl, Nat.le_refl _, fun _ _ => rfl⟩))
              go_wp2
              go_roundw
              case rel => exact ⟨d + 1, by omega, by go_num, hf5⟩
              case measure => simp [intOf]; omega
            · obtain ⟨hdn⟩ : Nonempty (d = NB) := ⟨by omega⟩
              have hf5 := Lib.hid (show Fresh OI W2 W4 (.slice (some ⟨g7, 0, none⟩) NB c7) (addsL NB NB wt) by rw [← redTo_all NB (NB : Int) wt NB rfl]; rw [hdn] at hf; exact hf.out)
              clear hdn hf
              obtain ⟨S7, hr7, hS7, hb7⟩ := hf5.out
              have hbp4 := below_heap hb7 Hbp.out
              have hown4 := Lib.hid (OII.ok.keep Hown.out (w' := W4) fun j hj => hb7.block j (OII.ok.lt Hown.out j hj))
              have Hr7 := Lib.hid hr7
              have hdis := Lib.hid (show ∀ j ∈ S7, j ∉ S from fun j hj hm => by have := OII.ok.lt Hown.out j hm; have := hS7 j hj; omega)
              have hlr := Lib.hid (show ∀ j ∈ S7, w1.heap.size < j from fun j hj => by have := hS7 j hj; omega)
              have hbel4 := Lib.hid (Hbel.out.trans (hb7.mono hs2))
              have e2 := heap_cell hbp4 (i := 2) rfl
              obtain ⟨av, nv, cv, rfl⟩ := hown4.out.isSlice
              have Hbp4 := Lib.hid hbp4
              have hs4 : w1.heap.size < W4.heap.size := heap_lt hbp4
              clear hr7 hS7 hb7 hbp4 hf5
              go_wp2_with (at_builtin; refine wpList_push rfl _ _ 41 rfl OI.ok Try.underlying41 infoSl' rfl hown4.out Hr7.out hdis.out (by have := hln2.out; omega) (by have := hln2.out; unfold maxLen; omega) rfl rfl ?_; intro v1 w5 S1 hown1 honly1 hS1; obtain ⟨a1, n1, c1, rfl⟩ := hown1.isSlice; have hbp5 := Only.heap honly1 Hbp4.out (fun hm => by have := hS.out _ hm; omega); have f5 := frozen_at hbp5 2; have e5 := heap_cell hbp5 (i := 2) rfl; have Hbp5 := Lib.hid hbp5; have Hon := Lib.hid hown1; have Hol := Lib.hid honly1; have HS1 := Lib.hid hS1; clear hown1 honly1 hS1 hbp5)
              go_roundw
              case rel =>
                have hS1' : ∀ j ∈ S1, w1.heap.size < j := fun j hj => by
                  rcases HS1.out j hj with h | h | h
                  · exact hS.out j h
                  · exact hlr.out j h
                  · omega
                refine ⟨k + 1, .slice a1 n1 c1, S1, by omega, by go_num, heap_setCell_same _ _ 2 _ _ _ Hbp5.out, ?_, Lib.hid hS1', ?_⟩
                · rw [htk.out]
                  exact OII.ok.keep Hon.out fun i hi => keep_set (by have := hS1' i hi; show i ≠ w1.heap.size; omega)
                · refine Below.setCell ?_ (by show _ ≤ w1.heap.size; omega) _
                  exact below_only hbel4.out Hol.out (by omega) fun j hj => by have := hS.out j hj; omega
              case measure => simp [intOf]; omega
        · obtain ⟨hkn⟩ : Nonempty (k = x.weights.length) := ⟨by omega⟩
          have hoW : OII W2 ov (pofW x).orders S := by
            rw [hkn, List.take_length] at hown
            show OII W2 ov (x.weights.map (addsL x.base.toNat x.base.toNat)) S
            rw [← HNB.out]; exact hown
          clear hkn hown
          have hb2' := below_heap hbel hb2.out
          obtain ⟨av, nv, cv, rfl⟩ := hoW.isSlice
          have c0 := heap_cell hbp (i := 0) rfl
          have c1 := heap_cell hbp (i := 1) rfl
          have c2 := heap_cell hbp (i := 2) rfl
          have hrp : RdP (· < W2.heap.size) W2 (aggP (pofW x) (.slice av nv cv)) (pofW x) := ⟨_, rfl, OII.leads.to _ _ _ _ _ hoW (OII.ok.lt hoW)⟩
          have hVP := Lib.hid (implValidPermuting hrp (Nat.le_refl _) (by have := hszp.out; omega) _ rfl)
          have HoW := Lib.hid hoW
          have Hb2 := Lib.hid hb2'
          have Hbp := Lib.hid hbp
          have Hbel2 := Lib.hid (Hbel.out.trans (hbel.mono (by omega)))
          unfold aggP at hVP
          rw [show (pofW x).base = (NB : Int) from Heb.out] at hVP
          clear hrp hoW hb2' hbp hbel e0
          go_wp2_with fail
          refine (Calls.mono hVP.out ?_)
          rintro e w5 ⟨rfl, hb5⟩
          have hbp5 := below_heap hb5 Hbp.out
          have hr5 := below_heap hb5 Hb2.out
          have c0 := heap_cell hbp5 (i := 0) rfl
          have c1 := heap_cell hbp5 (i := 1) rfl
          have c2 := heap_cell hbp5 (i := 2) rfl
          have d0 := heap_cell hr5 (i := 0) rfl
          have d1 := heap_cell hr5 (i := 1) rfl
          have d2 := heap_cell hr5 (i := 2) rfl
          have f0 := frozen_at hr5 0
          have f1 := frozen_at hr5 1
          have f2 := frozen_at hr5 2
          have hof := Lib.hid (OII.ok.keep HoW.out (w' := w5) fun j hj => hb5.block j (OII.ok.lt HoW.out j hj))
          have hbl5 := Lib.hid (Hbel2.out.trans (hb5.mono (by omega)))
          have hslt := Lib.hid (OII.ok.lt hof.out)
          clear hb5 hbp5 hr5
          cases hq : vP (pofW x)
          · have hm := Lib.hid (pofV_no (x := x) (by rw [ho.out]; exact hq))
            rw [hq] at ho
            clear hq
            go_wp2
            refine bodyPost_ret (v := .tuple #[aggP Prm.zero (.slice none 0 0), .bool false]) (by simp [results, Try.results41, go_sem, aggP, Prm.zero, d0, d1, d2]) rfl ⟨_, by rw [ho.out], ?_⟩
            rw [hm.out]
            refine ⟨[], ⟨_, rfl, own_nil _⟩, by simp, ?_⟩
            refine Below.trans hbl5.out ?_
            repeat' (first | with_reducible exact Below.refl _ _ | with_reducible refine Below.alloc ?_ ?_ _ | with_reducible refine Below.setCell ?_ ?_ _ | with_reducible refine Below.drew ?_ | with_reducible refine Below.draws ?_ _ | omega | (simp; done) | (simp; omega))
          · have hm := Lib.hid (pofV_yes (x := x) (by rw [ho.out]; exact hq))
            rw [hq] at ho
            clear hq
            go_wp2
            refine bodyPost_ret (v := .tuple #[aggP (pofW x) (.slice av nv cv), .bool true]) (by simp [results, Try.results41, go_sem, aggP, pofW, Heb.out, d0, d1, d2]) rfl ⟨_, by rw [ho.out], ?_⟩
            rw [hm.out]
            refine ⟨S, ⟨_, rfl, OII.ok.keep hof.out fun i hi => ?_⟩, fun i hi => by have := hS.out i hi; omega, ?_⟩
            · exact Only.block (S := [w.heap.size + 1]) (by repeat' (first | with_reducible exact Only.refl _ _ | with_reducible refine Only.put ?_ ?_ _ _ | (simp; done))) i (hslt.out i hi) (by have := hS.out i hi; simp; omega)
            · refine Below.trans hbl5.out ?_
              repeat' (first | with_reducible exact Below.refl _ _ | with_reducible refine Below.alloc ?_ ?_ _ | with_reducible refine Below.setCell ?_ ?_ _ | with_reducible refine Below.drew ?_ | with_reducible refine Below.draws ?_ _ | omega | (simp; done) | (simp; omega))
    · have ho := Lib.hid (show pofOk x = false by simp [pofOk, hmb])
      have hm := Lib.hid (pofV_no ho.out)
      have hmB : (x.modulus != x.base) = true := by simp [hmb]
      clear hv hvw hNB eb hmb
      go_enter Try.func41, Try.ntmps41
      go_wp2_with fail
      refine (implValidWeighting (Rd.below RdW.ok Hr.out (H2.out.2.2.2.mono hB)) (by rw [H2.out.2.2.1]; omega) hn _ Hv.out).mono ?_
      rintro e w1 ⟨rfl, hb⟩
      have hb1 := below_heap hb H2.out.1
      have g0 := heap_cell hb1 (i := 0) rfl
      have g1 := heap_cell hb1 (i := 1) rfl
      have hb2 := below_heap hb H2.out.2.1
      have d0 := heap_cell hb2 (i := 0) rfl
      have d1 := heap_cell hb2 (i := 1) rfl
      have d2 := heap_cell hb2 (i := 2) rfl
      have f0 := frozen_at hb2 0
      have f1 := frozen_at hb2 1
      have f2 := frozen_at hb2 2
      have Hbel := Lib.hid (H2.out.2.2.2.trans (hb.mono (by rw [H2.out.2.2.1]; omega)))
      clear hb hb2 hb1
      go_wp2
      refine bodyPost_ret (v := .tuple #[aggP Prm.zero (.slice none 0 0), .bool false]) (by simp [results, Try.results41, go_sem, aggP, Prm.zero, d0, d1, d2]) rfl ⟨_, by rw [ho.out], ?_⟩
      rw [hm.out]
      refine ⟨[], ⟨_, rfl, own_nil _⟩, by simp, ?_⟩
      refine Below.trans Hbel.out ?_
      repeat' (first | with_reducible exact Below.refl _ _ | with_reducible refine Below.alloc ?_ ?_ _ | with_reducible refine Below.setCell ?_ ?_ _ | with_reducible refine Below.drew ?_ | with_reducible refine Below.draws ?_ _ | omega | (simp; done) | (simp; omega))
end Go.Proofs.Ytphlohplkadenaa
