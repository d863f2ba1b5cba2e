/- The first undetected error: strings in order; the reference's search at one place, walked. -/
import Derived.Test.YtnpkanlieflbiaaFu4
import Derived.Test.YtnpkanlieflbiaaF2
import Derived.Test.YtnpkanlieflbiaaJ1
import Derived.Deep.RegionWith
import Derived.Test.YtnpkanlieflbiaaE15
namespace Go.Proofs.Ytnpkanlieflbiaa
open Go.RowKit
set_option linter.unusedVariables false

/-! ### Strings in order -/
def D36 (u : List Int) : Prop := ∀ d ∈ u, 0 ≤ d ∧ d < 36
theorem wordS_toList (u : List Int) : (wordS u).toList = syms u := by rw [ByteArray.toList_eq]; simp [wordS]
theorem symN_lt {m n : Nat} (hm : m < 36) (hn : n < 36) : symN m < symN n ↔ m < n := by
  rw [UInt8.lt_iff_toNat_lt, symN_toNat hm, symN_toNat hn]
  split <;> split <;> omega
theorem symN_eq {m n : Nat} (hm : m < 36) (hn : n < 36) : symN m = symN n ↔ m = n := by
  constructor
  · intro h
    have h1 := congrArg UInt8.toNat h
    rw [symN_toNat hm, symN_toNat hn] at h1
    split at h1 <;> split at h1 <;> omega
  · rintro rfl; rfl
theorem less_syms : ∀ {u v : List Int}, D36 u → D36 v → Op.bytesLess (syms u) (syms v) = lexL u v
  | [], [], _, _ => rfl
  | [], _ :: _, _, _ => rfl
  | _ :: _, [], _, _ => rfl
  | a :: u, b :: v, hu, hv => by
    have h1 := hu a (by simp)
    have h2 := hv b (by simp)
    have ih := less_syms (u := u) (v := v) (fun d hd => hu d (by simp [hd])) (fun d hd => hv d (by simp [hd]))
    show (decide (symN a.toNat < symN b.toNat) || (symN a.toNat == symN b.toNat && Op.bytesLess (syms u) (syms v))) = _
    rw [ih, lexL_cons]
    have e1 : (symN a.toNat < symN b.toNat) ↔ a < b := by rw [symN_lt (by omega) (by omega)]; omega
    have e2 : (symN a.toNat = symN b.toNat) ↔ a = b := by rw [symN_eq (by omega) (by omega)]; omega
    have e3 : (symN a.toNat == symN b.toNat) = decide (a = b) := by
      rw [Bool.eq_iff_iff, beq_iff_eq, decide_eq_true_eq]; exact e2
    rw [e3]
    congr 1
    exact decide_eq_decide.2 e1
theorem less_word {u v : List Int} (hu : D36 u) (hv : D36 v) : Op.bytesLess (wordS u).toList (wordS v).toList = lexL u v := by rw [wordS_toList, wordS_toList]; exact less_syms hu hv
theorem same_word {u v : List Int} (hu : D36 u) (hv : D36 v) : ((wordS u).toList == (wordS v).toList) = decide (u = v) := by
  rw [Bool.eq_iff_iff, beq_iff_eq, decide_eq_true_eq]
  constructor
  · intro h
    refine lexL_tri ?_ ?_
    · rw [← less_word hu hv, h, less_word hv hv]; exact lexL_irr _
    · rw [← less_word hv hu, h, less_word hv hv]; exact lexL_irr _
  · rintro rfl; rfl
theorem word_ne {u : List Int} (h : 1 ≤ u.length) : ((wordS u).toList == []) = false := by
  rw [wordS_toList]
  cases u with
  | nil => simp at h
  | cons a u => rfl
theorem Er.d36 {x : Chn} (hb : x.b ≤ 36) {kind : Int} {p : Nat} (hk10 : kind = 5 → 10 ≤ x.b) (hb2 : 2 ≤ x.b) {w v : List Int} (h : Er x kind p w v) : (D36 w ∧ D36 v) ∧ p + errLen kind ≤ w.length := by
  obtain ⟨a, f, t, c, hE, rfl, rfl⟩ := h
  have ht := (chg_digs hk10 hb2 hE.df hE.lf t hE.to).1
  have hd : ∀ {u : List Int}, Digs x.b u → ∀ d ∈ u, 0 ≤ d ∧ d < 36 := fun h d hd => by have := h d hd; omega
  refine ⟨⟨fun d hd' => hd (digs_app.2 ⟨hE.da, digs_app.2 ⟨hE.df, hE.c1.dig⟩⟩) d hd', fun d hd' => hd (digs_app.2 ⟨hE.da, digs_app.2 ⟨ht, hE.c1.dig⟩⟩) d hd'⟩, ?_⟩
  simp [hE.la, hE.lf]
theorem InS.er {x : Chn} {kind : Int} {p s k : Nat} {a w v : List Int} (hb : 1 ≤ x.b) (h : InS x kind p s a k w v) (hk : k ≤ (WQn x kind).length) (la : a.length = p) (da : Digs x.b a) (hs : runN x 0 x.start.toNat a = s) : Er x kind p w v := by
  obtain ⟨j, c, hj, hg, ht, rfl, rfl⟩ := h.att
  have hk' : k ≤ (wrongP kind x.b).length := hk
  have hm := (wrong_mem hb).1 (show nth (WQn x kind) j ∈ wrongP kind x.b from nth_mem (by omega))
  subst hs
  exact ⟨a, _, _, c, ⟨la, da, hm.1.1, hm.1.2, hm.2, ht.1.1, ht.1.2⟩, rfl, rfl⟩
/-- Append of all of a list, where a region draws its order. -/
theorem step_appendF {P : Program} {ops : Array Oper} {o : Oper} {a : Act} {K : Act → World → Prop} {Q : Exit → Act → World → Prop} {Ep : Prop} {w0 w : World} (hgd : o.guard = none) (s x : Operand) (t : TypeId)
    (ho : o.op = .call { callee := .builtin .append, args := #[s, x], argTypes := #[t, t] }) {α : Type} [Inhabited α] {f : α → Value} (h1 : ∀ x, (f x).oneCell' = true) {E : TypeId} (ht : P.underlying t = some (.slice E)) {z : Value} {bytes : Nat}
    (hinfo : (P.info? E).map (fun i => (i.zero, i.size, i.bytes)) = some (some z, 1, bytes)) (hz1 : z.cells.size = 1) {v : Value} {xs : List α} (hown : Fresh (Own E (leaf f)) w0 w v xs)
    {Pb : Nat → Prop} {vb : Value} {ys : List α} (hsrc : Rd (rleaf f) Pb w vb ys) (hlen : (xs.length + ys.length) * bytes ≤ 140737488355328) (hmax : xs.length + ys.length ≤ maxLen)
    (hs : a.eval s = v) (hx : a.eval x = vb)
    (h : ∀ v' w', Fresh (Own E (leaf f)) w0 w' v' (xs ++ ys) → K (a.put o.dst v') w') :
    if Region.wanted o (yielded ops a.tmps) = true then Oper.wp P o a w K Q else Ep := by
  have hw : Region.wanted o (yielded ops a.tmps) = true := by simp [Region.wanted, hgd]
  rw [if_pos hw]
  obtain ⟨S, hS, hS2, hb⟩ := hown
  obtain ⟨v', w', S', hr, g1, g2, g3, _⟩ := run_appendAll (P := P) h1 (ty := o.type) ht hinfo hz1 hS hsrc hlen hmax
  unfold Oper.wp execOp
  simp only [ho, resolve, invoke, builtin, Sem.run_bind, Sem.run_pure, Result.andThen_ok, List.map_toArray, List.map_cons, List.map_nil, hs, hx, hr]
  refine h v' w' ⟨S', g1, fun k hk => ?_, below_only hb g2 hb.size hS2⟩
  rcases g3 k hk with h | h
  · exact hS2 k h
  · exact Nat.le_trans hb.size h
/-- A list of lists, read: its rows. -/
theorem rowsA {P : Nat → Prop} {w : World} {a : Option Addr} {n c : Nat} {T : List (List Int)} (h : RdII P w (.slice a n c) T) (hPw : ∀ j, P j → j < w.heap.size) {i : Nat} (hi : i < T.length) :
    ∃ b o ar c2, a = some ⟨b, o, none⟩ ∧ (nth T i).length ≤ c2 ∧ c2 ≤ 9223372036854775807 ∧ ∀ W, Below w.heap.size w W → W.cell? ⟨b, o + i, none⟩ = some (.slice ar (nth T i).length c2) ∧ RdI P W (.slice ar (nth T i).length c2) (nth T i) := by
  obtain ⟨b', o', u, e, hP, hc, hu⟩ := Rd.elim h i hi
  obtain ⟨a2, c2, rfl, g1, g2⟩ := hu.isSlice
  unfold maxLen at g2
  exact ⟨b', o', a2, c2, e, g1, g2, fun W hW => ⟨(hW.cell (p := ⟨b', o' + i, none⟩) (cell_lt hc)).trans hc, RdI.ok.keep hu fun j hj => hW.block j (hPw j hj)⟩⟩

set_option maxHeartbeats 6400000 in
set_option maxRecDepth 100000 in
theorem specFirst {B bx : Nat} {x : Chn} {w : World} (h : BoxC (· < B) w bx x) (hB : B ≤ w.heap.size) (hbx : bx < w.heap.size) (hv : VC x) {kind : Int} (hkd : kindOk kind x.base = true) {place : Nat} (hp : place + errLen kind ≤ x.n) :
    Calls Try.prog 105 #[.pointer (some ⟨bx, 0, none⟩), .int .i64 kind, .int .i64 place] w fun e w' => Below w.heap.size w w' ∧
      (((∀ u, ¬ WrdS x kind place u) ∧ e = .returned (.tuple #[.string ⟨#[]⟩, .string ⟨#[]⟩, .bool false])) ∨ ∃ u v, At2 x kind place u v ∧ e = .returned (.tuple #[.string (wordS u), .string (wordS v), .bool true])) := by
  have hnat := hv.nat
  have H := Lib.hid h
  have Hv := Lib.hid hv; clear hv
  obtain ⟨a, c, a', c', g0, g1, g2, g3, g4, g5, hu, hpp, ⟨h1, h2⟩, h3, h4⟩ := h.cells
  obtain ⟨NS, hNS⟩ : ∃ n : Nat, n = x.S := ⟨_, rfl⟩
  obtain ⟨NB, hNB⟩ : ∃ n : Nat, n = x.b := ⟨_, rfl⟩
  obtain ⟨NT, hNT⟩ : ∃ n : Nat, n = x.start.toNat := ⟨_, rfl⟩
  have hbase : x.base = (NB : Int) := by have := Hv.out.base; rw [hNB]; show x.base = (x.base.toNat : Int); omega
  rw [hbase] at g0 hkd
  obtain ⟨SI, hSI⟩ : ∃ z : Int, z = x.states := ⟨_, rfl⟩
  have eS : SI = (NS : Int) := by have := Hv.out.states; rw [hNS, hSI]; show x.states = (x.states.toNat : Int); omega
  rw [← hSI] at g1
  rw [show x.start = (NT : Int) by have := Hv.out.start; rw [hNT]; omega] at g2
  rw [← hNS, ← hNB, ← hNT] at hnat
  have hkp := Lib.hid (show (0 ≤ kind ∧ kind ≤ 5) by simp only [kindOk, inB_true, Bool.and_eq_true] at hkd; exact hkd.1)
  have hk10 := Lib.hid (show kind = 5 → 10 ≤ x.b from fun h5 => by
    rw [← hNB]
    simp only [kindOk, inB_true, Bool.and_eq_true, Bool.or_eq_true, decide_eq_true_eq] at hkd
    rcases hkd.2 with h | h
    · exact absurd h5 h
    · omega)
  have hel := errLen_bd kind
  obtain ⟨n, hn⟩ : ∃ n : Nat, n = errLen kind := ⟨_, rfl⟩
  have hCS := Lib.hid (fun W => specSize (NB : Int) kind W)
  rw [show sizeK (NB : Int) kind = n by rw [hn]; exact sizeK_yes hkd] at hCS
  obtain ⟨M2, hM2⟩ : ∃ n : Nat, n = NS * NS := ⟨_, rfl⟩
  have hM2b : M2 ≤ 1296 := by
    have := Nat.mul_le_mul hnat.2.1.2 hnat.2.1.2
    omega
  have hmul := Lib.hid (fun (s t : Nat) (hs : s < NS) (ht : t < NS) => (show ∃ q : Nat, q = s * NS ∧ q + t < M2 ∧ (s : Int) * SI = (q : Int) from
    ⟨s * NS, rfl, by rw [hM2]; exact pair_lt hs ht, by rw [eS, Int.natCast_mul]⟩))
  have HNS := Lib.hid hNS; have HNB := Lib.hid hNB; have HNT := Lib.hid hNT; have Hn := Lib.hid hn; have HM2 := Lib.hid hM2
  obtain ⟨NP, hNP⟩ : ∃ k, k = x.places.length := ⟨_, rfl⟩
  have HNP := Lib.hid hNP
  have hp2 : place + n ≤ NP := by rw [hNP, hn]; exact hp
  have hP20 : NP ≤ 20 := by rw [hNP]; exact hnat.2.2.2.2.2
  rw [← hn] at hel
  have Hp := Lib.hid hp
  obtain ⟨PN, hPN⟩ : ∃ k, k = place + n := ⟨_, rfl⟩
  have hPN2 : PN ≤ NP := by omega
  have hwr : IntKind.i64.wrap ((place : Int) + (n : Int)) = (PN : Int) := by rw [hPN, Int.natCast_add]; exact IntWalk.i64_in _ (by omega)
  have HPN := Lib.hid (show PN = place + n ∧ PN = place + errLen kind ∧ PN ≤ x.n from ⟨hPN, by rw [hPN, hn], by rw [hPN, hn]; exact hp⟩)
  have cl := Lib.hid (fun (o : Nat) (W : World) (hb : Below w.heap.size w W) => (hb.cell (p := ⟨bx, o, none⟩) hbx))
  have G1 := Lib.hid g1; have G2 := Lib.hid g2; have G0 := Lib.hid g0
  clear hu hpp h g1 g2 g3 g4 g5 hNS hNB hNT hn hM2 hNP hSI eS hbase hkd hp hPN
  go_enter Try.func105, Try.ntmps105
  go_wp2_with fail
  refine (Calls.mono (hCS.out _) ?_)
  rintro e w' ⟨rfl, rfl⟩
  go_wp2_with fail
  refine (Calls.mono (specPairs H.out hB hbx Hv.out) ?_)
  rintro e w1 ⟨v1, rfl, hf1⟩
  obtain ⟨gp, cp, rfl⟩ := hf1.shape (by unfold pairsG gridL; simp)
  have hpl := hf1.len2
  have Hb1 := Lib.hid hf1.bel
  have hrp := Lib.hid (show RdII (· < w1.heap.size) w1 (.slice (some ⟨gp, 0, none⟩) (pairsG x).length cp) (pairsG x) from OII.leads.to _ _ _ _ _ hf1.choose_spec.1 fun j hj => OII.ok.lt hf1.choose_spec.1 j hj)
  have hplen : (pairsG x).length = NP + 1 := by unfold pairsG gridL; simp; rw [HNP.out]
  obtain ⟨np, hnp⟩ : ∃ k, k = (pairsG x).length := ⟨_, rfl⟩
  rw [← hnp] at hrp hplen hpl ⊢
  have e0 := (cl.out 0 w1 Hb1.out).trans G0.out
  unfold maxLen at hpl
  have Hplen := Lib.hid hplen
  have hplt : NP < np := by omega
  clear hf1 hnp g0 hplen
  go_wp2_with fail
  refine (Calls.mono (specWrong kind hkp.out NB hnat.1.1 hnat.1.2 w1) ?_)
  rintro e w2 ⟨vf, vt, rfl, htwo⟩
  obtain ⟨S1, S2, t1, t2, _, _, _, hb12⟩ := htwo
  have Hb2 := Lib.hid (Hb1.out.trans (hb12.mono Hb1.out.size))
  have Hb12 := Lib.hid hb12
  obtain ⟨WL, hWL⟩ : ∃ L, L = wrongS kind NB := ⟨_, rfl⟩
  rw [← hWL] at t1 t2
  have HWL := Lib.hid (show WL = wrongP kind x.b by rw [hWL, HNB.out]; exact wrongS_eq hkp.out _)
  have hbx2 : 2 ≤ x.b := by rw [← HNB.out]; exact hnat.1.1
  have Hbx2 := Lib.hid hbx2
  have hrf := OII.leads.to _ _ _ _ (· < w2.heap.size) t1 (OII.ok.lt t1)
  have hrt := OII.leads.to _ _ _ _ (· < w2.heap.size) t2 (OII.ok.lt t2)
  obtain ⟨nW, hnW⟩ : ∃ n, n = WL.length := ⟨_, rfl⟩
  have HnW := Lib.hid hnW
  obtain ⟨af, cf, rfl, u1, u2⟩ := hrf.isSlice
  obtain ⟨at', ct, rfl, u3, u4⟩ := hrt.isSlice
  rw [List.length_map, ← hnW] at u1 u3 hrf hrt
  rw [List.length_map, List.length_map, ← hnW]
  have hWl : nW ≤ 50000 := by rw [hnW, hWL, ← wB_end]; exact wB_len kind hnat.1.1 hnat.1.2 (Nat.le_refl _) (by omega)
  unfold maxLen at u2 u4
  have HRF := Lib.hid (fun (k : Nat) (hk : k < nW) => (show ∃ b o ar c2, af = some ⟨b, o, none⟩ ∧ n ≤ c2 ∧ c2 ≤ 9223372036854775807 ∧ ∀ W, Below w2.heap.size w2 W → W.cell? ⟨b, o + k, none⟩ = some (.slice ar n c2) ∧ RdI (· < w2.heap.size) W (.slice ar n c2) (nth WL k).1 from by
    have h5 := rowsA hrf (fun j hj => hj) (i := k) (by rw [List.length_map, ← hnW]; exact hk)
    have h6 := (wrong_mem (kind := kind) (b := x.b) (by omega)).1 (show nth WL k ∈ wrongP kind x.b by rw [← HWL.out]; exact nth_mem (by rw [← hnW]; exact hk))
    rw [nth_map (by rw [← hnW]; exact hk), h6.1.1, ← Hn.out] at h5
    exact h5))
  have HRT := Lib.hid (fun (k : Nat) (hk : k < nW) => (show ∃ b o ar c2, at' = some ⟨b, o, none⟩ ∧ n ≤ c2 ∧ c2 ≤ 9223372036854775807 ∧ ∀ W, Below w2.heap.size w2 W → W.cell? ⟨b, o + k, none⟩ = some (.slice ar n c2) ∧ RdI (· < w2.heap.size) W (.slice ar n c2) (nth WL k).2 from by
    have h5 := rowsA hrt (fun j hj => hj) (i := k) (by rw [List.length_map, ← hnW]; exact hk)
    have h6 := (wrong_mem (kind := kind) (b := x.b) (by omega)).1 (show nth WL k ∈ wrongP kind x.b by rw [← HWL.out]; exact nth_mem (by rw [← hnW]; exact hk))
    have h7 := chg_digs hk10.out (by omega) h6.1.2 h6.1.1 _ h6.2
    rw [nth_map (by rw [← hnW]; exact hk), h7.2, h6.1.1, ← Hn.out] at h5
    exact h5))
  clear t1 t2 hb12 hrf hrt hWL hnW hbx2
  go_wp2_with fail
  refine (Calls.mono (specFronts (H.out.below Hb2.out hB hbx) (by have := Hb2.out.size; omega) (by have := Hb2.out.size; omega) Hv.out place (by have := Hp.out; omega)) ?_)
  rintro e w4 ⟨v4, L, rfl, hf4, hL, hLS⟩
  obtain ⟨gl, cl', rfl⟩ := hf4.shape (hL.pos (by have := Hbx2.out; omega))
  have hll := hf4.len2
  have hrl := Lib.hid (show RdII (· < w4.heap.size) w4 (.slice (some ⟨gl, 0, none⟩) L.length cl') L from OII.leads.to _ _ _ _ _ hf4.choose_spec.1 fun j hj => OII.ok.lt hf4.choose_spec.1 j hj)
  have Hb24 := Lib.hid hf4.bel
  have Hb4 := Lib.hid (Hb2.out.trans (hf4.bel.mono Hb2.out.size))
  obtain ⟨nL, hnL⟩ : ∃ k, k = L.length := ⟨_, rfl⟩
  have HnL := Lib.hid hnL
  rw [← hnL] at hrl hll hLS ⊢
  have HL := Lib.hid hL
  unfold maxLen at hll
  rw [← HNS.out] at hLS
  have HPR := Lib.hid (fun (W : World) (hb : Below w4.heap.size w4 W) (k s t : Nat) (hk : k ≤ NP) (hs : s < NS) (ht : t < NS) => (show ∃ b2 o2 c2, W.cell? ⟨gp, k, none⟩ = some (.slice (some ⟨b2, o2, none⟩) M2 c2) ∧ (M2 ≤ c2 ∧ c2 ≤ 9223372036854775807) ∧ W.cell? ⟨b2, o2 + (s * NS + t), none⟩ = some (.int .i64 (bothV x k s t : Nat)) from by
    obtain ⟨b2, o2, c2, i1, i2, i3⟩ := pairsAt hrp.out (k := k) (by show k ≤ x.places.length; rw [← HNP.out]; exact hk) (s := s) (t := t) (by rw [← HNS.out]; exact hs) (by rw [← HNS.out]; exact ht)
    rw [← HNS.out, ← HM2.out] at i1 i2
    rw [← HNS.out] at i3
    have hbb : Below w1.heap.size w1 W := Hb12.out.trans ((Hb24.out.trans (hb.mono Hb24.out.size)).mono Hb12.out.size)
    exact ⟨b2, o2, c2, (hbb.cell (p := ⟨gp, k, none⟩) (cell_lt i1)).trans i1, i2, (hbb.cell (p := ⟨b2, o2 + (s * NS + t), none⟩) (cell_lt i3)).trans i3⟩))
  have hs0 := Lib.hid (show ∀ j, j < 0 → ¬ canN x kind place (runN x 0 x.start.toNat (nth L j)) from fun j hj => absurd hj (Nat.not_lt_zero _))
  clear hf4 hL hnL e0
  go_wp2
  go_loopw [14] (fun fv wr => ∃ f : Nat, f ≤ nL ∧ fv = .int .i64 f ∧ Hid (∀ j, j < f → ¬ canN x kind place (runN x 0 x.start.toNat (nth L j))) ∧ Hid (Below w4.heap.size w4 wr)) (fun fv _ => nL - (intOf fv).toNat)
  case atStart => exact ⟨0, Nat.zero_le _, rfl, hs0, Lib.hid (Below.refl _ _)⟩
  case round =>
    clear hs0
    obtain ⟨f, hf, rfl, hno, hb⟩ := hrel
    obtain ⟨W5, rfl⟩ : ∃ W, W = wr := ⟨_, rfl⟩
    have Hb5 := Lib.hid (Hb4.out.trans (hb.out.mono Hb4.out.size))
    by_cases hfl : f < nL
    · have hfL : f < L.length := by rw [← HnL.out]; exact hfl
      have hu := Lib.hid (HL.out.all _ (nth_mem hfL))
      have e2 := (cl.out 2 W5 Hb5.out).trans G2.out
      obtain ⟨b5, o5, ar5, cr5, e9, hc1, hc2, hrow⟩ := rowsA hrl.out (fun j hj => hj) hfL
      simp only [Option.some.injEq, Addr.mk.injEq, and_true] at e9
      obtain ⟨rfl, rfl⟩ := e9
      rw [Nat.zero_add] at hrow
      obtain ⟨A, hA⟩ : ∃ A, A = nth L f := ⟨_, rfl⟩
      rw [← hA] at hu hrow hc1
      rw [hu.out.1] at hrow hc1
      have Hrow := Lib.hid hrow
      have HA := Lib.hid hA
      have cf5 := (hrow W5 hb.out).1
      have hrun := Lib.hid (fun m => specRun ((H.out.below Hb5.out hB hbx).draws m) Hv.out 0 x.start.toNat (RdI.ok.keep (Hrow.out W5 hb.out).2 (w' := W5.drewN m) fun _ _ => rfl) hu.out.2 (by rw [hu.out.1]; have := Hp.out; omega) (by rw [← HNT.out, ← HNS.out]; exact hnat.2.2.1))
      obtain ⟨s, hs⟩ : ∃ s, s = runN x 0 x.start.toNat A := ⟨_, rfl⟩
      rw [← hs, ← HNT.out] at hrun
      have hsS : s < NS := by rw [hs, HNS.out]; exact Hv.out.runLt hu.out.2 (by rw [hu.out.1]; have := Hp.out; omega) (by rw [← HNT.out, ← HNS.out]; exact hnat.2.2.1)
      have Hs := Lib.hid hs
      clear hs hrow hA
      go_wp2
      refine wp_region_quiet_lit (by kernel_rfl) (by kernel_rfl) ?_
      repeat (go_big_quiet_step (with_reducible exact quiet_draws (hrun.out _)))
      refine wpQuiet_nil ?_
      rintro _ ⟨nq, rfl⟩
      have hbq := Lib.hid (hb.out.trans ((bel_draws (w := W5) (m := nq) rfl).mono hb.out.size))
      clear cf5 e2 hrun
      go_wp2
      go_loopw [16, 17, 18] (fun wv rv kv wr => ∃ k : Nat, k ≤ nW ∧ kv = .int .i64 k ∧ Hid (Below w4.heap.size w4 wr) ∧ ((Hid (InN x kind place s k) ∧ wv = .string ⟨#[]⟩ ∧ rv = .string ⟨#[]⟩) ∨ ∃ u v, Hid (InS x kind place s A k u v) ∧ wv = .string (wordS u) ∧ rv = .string (wordS v))) (fun _ _ kv _ => nW - (intOf kv).toNat)
      case atStart => exact ⟨0, Nat.zero_le _, rfl, hbq, .inl ⟨Lib.hid (InN.zero _ _ _ _), rfl, rfl⟩⟩
      case round =>
        clear hbq
        obtain ⟨k, hk, rfl, hbk, hst⟩ := hrel
        obtain ⟨W6, rfl⟩ : ∃ W, W = wr := ⟨_, rfl⟩
        by_cases hkW : k < nW
        · obtain ⟨bf, of', arf, crf, eaf, qf1, qf2, hfk⟩ := HRF.out k hkW
          obtain ⟨bt, ot, art, crt, eat, qt1, qt2, htk⟩ := HRT.out k hkW
          have hb26 := Hb24.out.trans (hbk.out.mono Hb24.out.size)
          have Hfk := Lib.hid hfk
          have Htk := Lib.hid htk
          obtain ⟨Q, hQ⟩ : ∃ Q, Q = nth WL k := ⟨_, rfl⟩
          have hq := (wrong_mem (kind := kind) (b := x.b) (by have := Hbx2.out; omega)).1 (show nth WL k ∈ wrongP kind x.b by rw [← HWL.out]; exact nth_mem (by rw [← HnW.out]; exact hkW))
          have hq2 := chg_digs hk10.out Hbx2.out hq.1.2 hq.1.1 _ hq.2
          rw [← hQ] at hq hq2
          have Hq := Lib.hid (show Q.1.length = n ∧ Digs x.b Q.1 ∧ Q.2 ∈ chg kind x.b Q.1 ∧ Q.2.length = n ∧ Digs x.b Q.2 from ⟨by rw [hq.1.1, Hn.out], hq.1.2, hq.2, by rw [hq2.2, hq.1.1, Hn.out], hq2.1⟩)
          have HQ := Lib.hid (show Q = nth (WQn x kind) k by rw [hQ, HWL.out])
          rw [← hQ] at Hfk Htk
          have hpn : place + n ≤ x.n := by rw [Hn.out]; exact Hp.out
          have hsx : s < x.S := by rw [← HNS.out]; exact hsS
          have hyS : runN x place s Q.1 < NS := by rw [HNS.out]; exact Hv.out.runLt Hq.out.2.1 (by rw [Hq.out.1]; exact hpn) hsx
          have hzS : runN x place s Q.2 < NS := by rw [HNS.out]; exact Hv.out.runLt Hq.out.2.2.2.2 (by rw [Hq.out.2.2.2.1]; exact hpn) hsx
          have hcy := Lib.hid (fun (W : World) (hb : Below w4.heap.size w4 W) => specRun (H.out.below (Hb4.out.trans (hb.mono Hb4.out.size)) hB hbx) Hv.out place s ((Hfk.out W (Hb24.out.trans (hb.mono Hb24.out.size))).2) Hq.out.2.1 (by rw [Hq.out.1]; exact hpn) hsx)
          have hcz := Lib.hid (fun (W : World) (hb : Below w4.heap.size w4 W) => specRun (H.out.below (Hb4.out.trans (hb.mono Hb4.out.size)) hB hbx) Hv.out place s ((Htk.out W (Hb24.out.trans (hb.mono Hb24.out.size))).2) Hq.out.2.2.2.2 (by rw [Hq.out.2.2.2.1]; exact hpn) hsx)
          obtain ⟨b2, o2, c2, i1, i2, i3⟩ := HPR.out W6 hbk.out PN _ _ hPN2 hyS hzS
          obtain ⟨q2, hq3, hq3t, hzq⟩ := hmul.out _ _ hyS hzS
          rw [← hq3] at i3
          obtain ⟨V, hV⟩ : ∃ V, V = bothV x PN (runN x place s Q.1) (runN x place s Q.2) := ⟨_, rfl⟩
          rw [← hV] at i3
          have HV := Lib.hid hV
          have hgood := Lib.hid (show goodQ x kind place s Q ↔ 0 < V by rw [hV, HPN.out.2.1]; exact Iff.rfl)
          have HW1 := Lib.hid (show IntKind.i64.wrap (((runN x place s Q.1 : Nat) : Int) * SI) = (q2 : Int) by rw [hzq]; exact IntWalk.i64_in _ (by omega))
          have hlst := Lib.hid (fun (W : World) (hb : Below w4.heap.size w4 W) (hpos : 0 < V) => specLeast (H.out.below (Hb4.out.trans (hb.mono Hb4.out.size)) hB hbx) (by have := Hb4.out.size; have := hb.size; omega) (by have := Hb4.out.size; have := hb.size; omega) Hv.out (P := (· < w1.heap.size)) (gp := gp) (np := np) (cp := cp) (RdII.ok.keep hrp.out fun j hj => (Hb12.out.trans ((Hb24.out.trans (hb.mono Hb24.out.size)).mono Hb12.out.size)).block j hj) ⟨by rw [Hplen.out, HNP.out], by unfold maxLen; omega⟩ PN (runN x place s Q.1) (runN x place s Q.2) HPN.out.2.2 (by rw [← HNS.out]; exact hyS) (by rw [← HNS.out]; exact hzS) (by rw [← HV.out]; exact hpos))
          have Hq3 := Lib.hid hq3
          clear hfk htk hQ hq hq2 hq3 hzq hV
          generalize hN1 : runN x place s Q.1 = n1 at *
          have HN1 := Lib.hid hN1; clear hN1
          generalize hN2 : runN x place s Q.2 = n2 at *
          have HN2 := Lib.hid hN2; clear hN2
          have HV2 := Lib.hid HV.out
          subst eaf
          have cfk := (Hfk.out W6 hb26).1
          rcases hst with ⟨hN, rfl, rfl⟩ | ⟨u, v, hS, rfl, rfl⟩
          · subst eat
            have ctk := (Htk.out W6 hb26).1
            go_wp2
            refine wp_region_quiet_lit (by kernel_rfl) (by kernel_rfl) ?_
            repeat (go_big_quiet_step (fail))
            refine wpQuiet_nil ?_
            rintro _ ⟨nq, rfl⟩
            obtain ⟨W7, hW7⟩ : ∃ W, W = W6.drewN nq := ⟨_, rfl⟩
            have Hb7 := Lib.hid (show Below w4.heap.size w4 W7 by rw [hW7]; exact hbk.out.trans ((bel_draws rfl).mono hbk.out.size))
            rw [← hW7]
            clear cfk ctk i1 i3 hW7
            have cfk := (Hfk.out W7 (Hb24.out.trans (Hb7.out.mono Hb24.out.size))).1
            have ctk := (Htk.out W7 (Hb24.out.trans (Hb7.out.mono Hb24.out.size))).1
            obtain ⟨b2, o2, c2, i1, i2, i3⟩ := HPR.out W7 Hb7.out PN n1 n2 hPN2 hyS hzS
            have e1 := (cl.out 1 W7 (Hb4.out.trans (Hb7.out.mono Hb4.out.size))).trans G1.out
            go_wp2_with fail
            refine (Calls.mono (hcy.out W7 Hb7.out) ?_)
            rintro e w8 ⟨rfl, m8, rfl⟩
            go_wp2_with fail
            refine (Calls.mono (hcz.out (W7.drewN m8) (Hb7.out.trans ((bel_draws rfl).mono Hb7.out.size))) ?_)
            rintro e w9 ⟨rfl, m9, rfl⟩
            go_wp2_with fail
            have wy1 := HW1.out
            have wy2 : IntKind.i64.wrap ((q2 : Int) + (n2 : Int)) = (q2 : Int) + (n2 : Int) := IntWalk.i64_in _ (by omega)
            have wy3 : ((q2 : Int) + (n2 : Int)).toNat = q2 + n2 := by omega
            have wy4 : (0 : Int) ≤ (q2 : Int) + (n2 : Int) := by omega
            have wy5 : (q2 : Int) + (n2 : Int) < (M2 : Int) := by omega
            have hbD := Lib.hid (fun m => Hb7.out.trans ((bel_draws (w := W7) (m := m) rfl).mono Hb7.out.size))
            rw [← Hq3.out, ← HV2.out] at i3
            refine wp_region_quiet_lit (by kernel_rfl) (by kernel_rfl) ?_
            repeat (go_big_quiet_step (fail))
            refine wpQuiet_nil ?_
            rintro _ ⟨nq2, rfl⟩
            clear wy1 wy2 wy3 wy4 wy5 i1 i3 e1 cfk ctk
            by_cases hV0 : V = 0
            · have hng := Lib.hid (show ¬ goodQ x kind place s Q from fun h => by have := hgood.out.1 h; omega)
              rw [HQ.out] at hng
              subst hV0
              have hN2 := Lib.hid (hN.out.no hng.out)
              go_wp2
              go_roundw
              case rel => exact ⟨k + 1, by omega, by go_num, Lib.hid (by first | exact hbD.out _ | (rw [World.drewN_drewN]; exact hbD.out _)), .inl ⟨hN2, rfl, rfl⟩⟩
              case measure => simp [intOf]; omega
            · have hpos : 0 < V := by omega
              have hV3 : ¬ ((V : Int) = 0) := by omega
              go_wp2_with fail
              refine (Calls.mono (hlst.out _ (by first | exact hbD.out _ | (rw [World.drewN_drewN]; exact hbD.out _)) hpos) ?_)
              rintro e w10 ⟨vc, C, rfl, hfc, hLc⟩
              obtain ⟨ac, ncc, ccc, rfl⟩ := hfc.choose_spec.1.isSlice
              have Hb10 := Lib.hid (show Below w4.heap.size w4 w10 from (hbD.out (m8 + (m9 + nq2))).trans (by
                have h5 := hfc.bel
                have h6 := (hbD.out (m8 + (m9 + nq2))).size
                first | exact h5.mono h6 | (simp only [Nat.add_assoc] at h5 ⊢; exact h5.mono h6)))
              have HrC := Lib.hid (fun (W : World) (hb : Below w10.heap.size w10 W) => RdI.ok.keep (w' := W) (OI.leads.to _ _ _ _ _ hfc.choose_spec.1 fun j hj => OI.ok.lt hfc.choose_spec.1 j hj : RdI (· < w10.heap.size) w10 (.slice ac ncc ccc) C) fun j hj => hb.block j hj)
              have HLc := Lib.hid (show TailS x kind place s Q C from by
                unfold TailS
                rw [← HPN.out.2.1, HN1.out, HN2.out]
                exact hLc)
              have hEr := Lib.hid (show Er x kind place (A ++ (Q.1 ++ C)) (A ++ (Q.2 ++ C)) from ⟨A, Q.1, Q.2, C, ⟨hu.out.1, hu.out.2, by rw [Hq.out.1, Hn.out], Hq.out.2.1, Hq.out.2.2.1, by rw [← Hs.out]; exact HLc.out.1.1, by rw [← Hs.out]; exact HLc.out.1.2⟩, rfl, rfl⟩)
              have hd36 := Lib.hid (hEr.out.d36 (by rw [← HNB.out]; exact hnat.1.2) hk10.out Hbx2.out)
              have hCl := Lib.hid (show C.length ≤ 20 by have := HLc.out.1.len; omega)
              have hOwn := Lib.hid (fun (W0 : World) (h0 : Below w10.heap.size w10 W0) (W : World) (hb : Below W0.heap.size W0 W) => (show Calls Try.prog 146 #[.slice ar5 place cr5] W fun e w' => ∃ a n c, e = .returned (.slice a n c) ∧ Hid (Fresh OI W0 w' (.slice a n c) A) ∧ Below W0.heap.size W0 w' from by
                have hb0 := h0.trans (hb.mono h0.size)
                have hbw := Hb10.out.trans (hb0.mono Hb10.out.size)
                refine (specOwnF (Hrow.out W hbw).2 (fun j hj => by have h5 : j < w4.heap.size := hj; have := hbw.size; omega) (by rw [hu.out.1]; omega)).mono ?_
                rintro e w' ⟨v, rfl, S, h5, h6, h7⟩
                obtain ⟨a, n, c, rfl⟩ := h5.isSlice
                have h8 := hb.trans (h7.mono hb.size)
                exact ⟨a, n, c, rfl, Lib.hid ⟨S, h5, fun j hj => Nat.le_trans hb.size (h6 j hj), h8⟩, h8⟩))
              clear hfc hLc
              go_upto_region 19 with fail
              go_cut [22] from 60 to 166 (fun vo wx => vo = .string (wordS (A ++ (Q.1 ++ C))) ∧ Hid (Below w10.heap.size w10 wx))
              case first =>
                have D36F := Lib.hid (show D36 (A ++ Q.1 ++ C) by rw [List.append_assoc]; exact hd36.out.1.1)
                have hsc := Lib.hid (fun (W : World) (hb : Below w10.heap.size w10 W) => (show W.cell? ⟨gl, f, none⟩ = some (.slice ar5 place cr5) ∧ W.cell? ⟨bf, of' + k, none⟩ = some (.slice arf n crf) ∧ Below w10.heap.size w10 W from by
                  have hb0 := (Below.refl w10.heap.size w10).trans (hb.mono (Below.refl w10.heap.size w10).size)
                  have hbw := Hb10.out.trans (hb0.mono Hb10.out.size)
                  exact ⟨(Hrow.out W hbw).1, (Hfk.out W (Hb24.out.trans (hbw.mono Hb24.out.size))).1, hb⟩))
                obtain ⟨z1, z2, _⟩ := hsc.out w10 (Below.refl _ _)
                go_region_held3 (fun w' => w'.cell? ⟨gl, f, none⟩ = some (.slice ar5 place cr5) ∧ w'.cell? ⟨bf, of' + k, none⟩ = some (.slice arf n crf) ∧ Below w10.heap.size w10 w') ((refine hsc.out _ ?_; repeat' (first | with_reducible exact Below.refl _ _ | with_reducible exact Hba.out | with_reducible exact Hbb.out | with_reducible exact Hbc.out | with_reducible exact Hbd.out | with_reducible refine Below.drew ?_))) (first
                  | (go_at_call 146; refine (Calls.mono (hOwn.out w10 (Below.refl w10.heap.size w10) _ ((‹_ ∧ _ ∧ Below w10.heap.size w10 _›).2.2)) ?_); rintro e wa ⟨aa, na, ca, rfl, Hfa, hba⟩; have Hba := Lib.hid (show Below w10.heap.size w10 wa from hba); have sa := hsc.out wa Hba.out; clear hba)
                  | (refine step_appendF rfl (.tmp 126) (.tmp 130) 22 rfl (f := fI) (fun _ => rfl) Try.underlying22 infoI64 rfl Hfa.out ((Hfk.out wa (Hb24.out.trans ((Hb10.out.trans (((Below.refl w10.heap.size w10).trans (Hba.out.mono (Below.refl w10.heap.size w10).size)).mono Hb10.out.size)).mono Hb24.out.size))).2) (by rw [hu.out.1, Hq.out.1]; omega) (by rw [hu.out.1, Hq.out.1]; unfold maxLen; omega) rfl rfl ?_; intro vb wb hfb; obtain ⟨Tb, hob, hlb, hbb⟩ := hfb; obtain ⟨ab, nb, cb, rfl⟩ := hob.isSlice; have Hfb := Lib.hid (show Fresh OI w10 wb (.slice ab nb cb) (A ++ Q.1) from ⟨Tb, hob, hlb, hbb⟩); have Hbb := Lib.hid (show Below w10.heap.size w10 wb from hbb); have sb := hsc.out wb Hbb.out; clear hob hlb hbb)
                  | (refine step_appendF rfl (.tmp 131) (.tmp 132) 22 rfl (f := fI) (fun _ => rfl) Try.underlying22 infoI64 rfl Hfb.out (HrC.out wb ((Below.refl w10.heap.size w10).trans (Hfb.out.bel.mono (Below.refl w10.heap.size w10).size))) (by rw [List.length_append, hu.out.1, Hq.out.1]; have := hCl.out; omega) (by rw [List.length_append, hu.out.1, Hq.out.1]; have := hCl.out; unfold maxLen; omega) rfl rfl ?_; intro vc wc2 hfc; obtain ⟨Tc, hoc, hlc, hbc⟩ := hfc; obtain ⟨ac2, nc2, cc2, rfl⟩ := hoc.isSlice; have Hfc2 := Lib.hid (show Fresh OI w10 wc2 (.slice ac2 nc2 cc2) (A ++ Q.1 ++ C) from ⟨Tc, hoc, hlc, hbc⟩); have Hbc := Lib.hid (show Below w10.heap.size w10 wc2 from hbc); have sc := hsc.out wc2 Hbc.out; clear hoc hlc hbc)
                  | (go_at_call 153; refine (specFrom (P := (· < wc2.heap.size)) (OI.leads.to _ _ _ _ _ Hfc2.out.choose_spec.1 fun j hj => OI.ok.lt Hfc2.out.choose_spec.1 j hj) (fun j hj => hj) (by rw [List.length_append, List.length_append, hu.out.1, Hq.out.1]; have := hCl.out; omega) (fun i hi => D36F.out _ (nth_mem hi))).mono ?_; rintro e wd ⟨rfl, hbd⟩; have Hbd := Lib.hid (show Below w10.heap.size w10 wd from Hbc.out.trans (hbd.mono Hbc.out.size)); have sd := hsc.out wd Hbd.out; clear hbd))
                all_goals (go_wp2_with fail)
                all_goals go_meet
                all_goals exact ⟨by first | rfl | (rw [List.append_assoc]), Lib.hid ((Below.refl w10.heap.size w10).trans (Hbd.out.mono (Below.refl w10.heap.size w10).size))⟩
              case rest =>
              obtain ⟨W12, rfl⟩ : ∃ W, W = wc := ⟨_, rfl⟩
              obtain ⟨rfl, Hb12x⟩ := hcut
              go_upto_region 20 with fail
              go_cut [23] from 60 to 166 (fun vo wx => vo = .string (wordS (A ++ (Q.2 ++ C))) ∧ Hid (Below w10.heap.size w10 wx))
              case first =>
                have D36F := Lib.hid (show D36 (A ++ Q.2 ++ C) by rw [List.append_assoc]; exact hd36.out.1.2)
                have hsc := Lib.hid (fun (W : World) (hb : Below W12.heap.size W12 W) => (show W.cell? ⟨gl, f, none⟩ = some (.slice ar5 place cr5) ∧ W.cell? ⟨bt, ot + k, none⟩ = some (.slice art n crt) ∧ Below W12.heap.size W12 W from by
                  have hb0 := Hb12x.out.trans (hb.mono Hb12x.out.size)
                  have hbw := Hb10.out.trans (hb0.mono Hb10.out.size)
                  exact ⟨(Hrow.out W hbw).1, (Htk.out W (Hb24.out.trans (hbw.mono Hb24.out.size))).1, hb⟩))
                obtain ⟨z1, z2, _⟩ := hsc.out W12 (Below.refl _ _)
                go_region_held3 (fun w' => w'.cell? ⟨gl, f, none⟩ = some (.slice ar5 place cr5) ∧ w'.cell? ⟨bt, ot + k, none⟩ = some (.slice art n crt) ∧ Below W12.heap.size W12 w') ((refine hsc.out _ ?_; repeat' (first | with_reducible exact Below.refl _ _ | with_reducible exact Hba.out | with_reducible exact Hbb.out | with_reducible exact Hbc.out | with_reducible exact Hbd.out | with_reducible refine Below.drew ?_))) (first
                  | (go_at_call 146; refine (Calls.mono (hOwn.out W12 Hb12x.out _ ((‹_ ∧ _ ∧ Below W12.heap.size W12 _›).2.2)) ?_); rintro e wa ⟨aa, na, ca, rfl, Hfa, hba⟩; have Hba := Lib.hid (show Below W12.heap.size W12 wa from hba); have sa := hsc.out wa Hba.out; clear hba)
                  | (refine step_appendF rfl (.tmp 139) (.tmp 143) 22 rfl (f := fI) (fun _ => rfl) Try.underlying22 infoI64 rfl Hfa.out ((Htk.out wa (Hb24.out.trans ((Hb10.out.trans ((Hb12x.out.trans (Hba.out.mono Hb12x.out.size)).mono Hb10.out.size)).mono Hb24.out.size))).2) (by rw [hu.out.1, Hq.out.2.2.2.1]; omega) (by rw [hu.out.1, Hq.out.2.2.2.1]; unfold maxLen; omega) rfl rfl ?_; intro vb wb hfb; obtain ⟨Tb, hob, hlb, hbb⟩ := hfb; obtain ⟨ab, nb, cb, rfl⟩ := hob.isSlice; have Hfb := Lib.hid (show Fresh OI W12 wb (.slice ab nb cb) (A ++ Q.2) from ⟨Tb, hob, hlb, hbb⟩); have Hbb := Lib.hid (show Below W12.heap.size W12 wb from hbb); have sb := hsc.out wb Hbb.out; clear hob hlb hbb)
                  | (refine step_appendF rfl (.tmp 144) (.tmp 145) 22 rfl (f := fI) (fun _ => rfl) Try.underlying22 infoI64 rfl Hfb.out (HrC.out wb (Hb12x.out.trans (Hfb.out.bel.mono Hb12x.out.size))) (by rw [List.length_append, hu.out.1, Hq.out.2.2.2.1]; have := hCl.out; omega) (by rw [List.length_append, hu.out.1, Hq.out.2.2.2.1]; have := hCl.out; unfold maxLen; omega) rfl rfl ?_; intro vc wc2 hfc; obtain ⟨Tc, hoc, hlc, hbc⟩ := hfc; obtain ⟨ac2, nc2, cc2, rfl⟩ := hoc.isSlice; have Hfc2 := Lib.hid (show Fresh OI W12 wc2 (.slice ac2 nc2 cc2) (A ++ Q.2 ++ C) from ⟨Tc, hoc, hlc, hbc⟩); have Hbc := Lib.hid (show Below W12.heap.size W12 wc2 from hbc); have sc := hsc.out wc2 Hbc.out; clear hoc hlc hbc)
                  | (go_at_call 153; refine (specFrom (P := (· < wc2.heap.size)) (OI.leads.to _ _ _ _ _ Hfc2.out.choose_spec.1 fun j hj => OI.ok.lt Hfc2.out.choose_spec.1 j hj) (fun j hj => hj) (by rw [List.length_append, List.length_append, hu.out.1, Hq.out.2.2.2.1]; have := hCl.out; omega) (fun i hi => D36F.out _ (nth_mem hi))).mono ?_; rintro e wd ⟨rfl, hbd⟩; have Hbd := Lib.hid (show Below W12.heap.size W12 wd from Hbc.out.trans (hbd.mono Hbc.out.size)); have sd := hsc.out wd Hbd.out; clear hbd))
                all_goals (go_wp2_with fail)
                all_goals go_meet
                all_goals exact ⟨by first | rfl | (rw [List.append_assoc]), Lib.hid (Hb12x.out.trans (Hbd.out.mono Hb12x.out.size))⟩
              case rest =>
              obtain ⟨W13, rfl⟩ : ∃ W, W = wc := ⟨_, rfl⟩
              obtain ⟨rfl, Hb13⟩ := hcut
              have hIS := Lib.hid (show InS x kind place s A (k + 1) (A ++ (Q.1 ++ C)) (A ++ (Q.2 ++ C)) from by
                have h5 := hN.out.yes A (c := C) (by rw [← HQ.out]; exact hgood.out.2 hpos) (by rw [← HQ.out]; exact HLc.out)
                rw [← HQ.out] at h5
                exact h5)
              have hb413 := Lib.hid (Hb10.out.trans (Hb13.out.mono Hb10.out.size))
              go_wp2
              go_roundw
              case rel => exact ⟨k + 1, by omega, by go_num, hb413, .inr ⟨_, _, hIS, rfl, rfl⟩⟩
              case measure => simp [intOf]; omega
          · subst eat
            have ctk := (Htk.out W6 hb26).1
            have hk1 := hS.out.pos
            have hkl := Lib.hid (show k ≤ (WQn x kind).length by have h5 : WL.length = (WQn x kind).length := congrArg List.length HWL.out; have h6 := HnW.out; omega)
            have hErS := Lib.hid (hS.out.er (by have := Hbx2.out; omega) hkl.out hu.out.1 hu.out.2 Hs.out.symm)
            have hdS := Lib.hid (hErS.out.d36 (by rw [← HNB.out]; exact hnat.1.2) hk10.out Hbx2.out)
            have hneS : ((wordS u).toList == []) = false := word_ne (by have := hdS.out.2; rw [← Hn.out] at this; omega)
            have hat := Lib.hid (fun (ha : LeastL (PreS x kind place) A) (he : k = (WQn x kind).length ∨ (nth (WQn x kind) k).1 ≠ (nth (WQn x kind) (k - 1)).1) => hS.out.done (by have := Hbx2.out; omega) hkl.out ha Hs.out.symm he)
            have hcan := Lib.hid (hS.out.can (by have := Hbx2.out; omega) hkl.out)
            obtain ⟨j, rfl⟩ : ∃ j, k = j + 1 := ⟨k - 1, by omega⟩
            obtain ⟨bf', of2, arf', crf', eaf', qf1', qf2', hfj⟩ := HRF.out j (by omega)
            simp only [Option.some.injEq, Addr.mk.injEq, and_true] at eaf'
            obtain ⟨rfl, rfl⟩ := eaf'
            have cfj := (hfj W6 hb26).1
            have hsm := Lib.hid (fun m => specSame (RdI.ok.keep (w' := W6.drewN m) (Hfk.out W6 hb26).2 fun _ _ => rfl) (RdI.ok.keep (w' := W6.drewN m) (hfj W6 hb26).2 fun _ _ => rfl))
            have hkn : ((j + 1 : Nat) : Int) - 1 = (j : Int) := by omega
            have hkp : (0 : Int) < ((j + 1 : Nat) : Int) := by omega
            clear hfj
            have HWj := Lib.hid (show nth WL j = nth (WQn x kind) j by rw [HWL.out])
            by_cases hdf : Q.1 = (nth WL j).1
            rotate_left
            · have hsm2 := Lib.hid (fun m => hsm.out m)
              rw [decide_eq_false hdf] at hsm2
              have hA2 := Lib.hid (hat.out (by rw [HA.out]; exact HL.out.least hfL (by rw [← HA.out, ← Hs.out]; exact hcan.out) hno.out) (.inr (by rw [← HQ.out, Nat.add_sub_cancel, ← HWj.out]; exact hdf)))
              clear hdf hsm
              go_wp2
              refine wp_region_quiet_lit (by kernel_rfl) (by kernel_rfl) ?_
              repeat (go_big_quiet_step (with_reducible exact quiet_draws (hsm2.out _)))
              refine wpQuiet_nil ?_
              rintro _ ⟨nq, rfl⟩
              obtain ⟨W7, hW7⟩ : ∃ W, W = W6.drewN nq := ⟨_, rfl⟩
              have Hb7 := Lib.hid (show Below w4.heap.size w4 W7 by rw [hW7]; exact hbk.out.trans ((bel_draws rfl).mono hbk.out.size))
              rw [← hW7]
              clear cfk ctk i1 i3 hW7 cfj hsm2 hkn hkp
              have hbe := Lib.hid (Hb4.out.trans (Hb7.out.mono Hb4.out.size))
              go_wp2
              refine bodyPost_ret (v := .tuple #[_, _, _]) (by simp [results, Try.results105, go_sem]; first | done | exact ⟨rfl, rfl, rfl⟩) rfl ?_
              exact ⟨hbe.out, .inr ⟨u, v, hA2.out, rfl⟩⟩
            have hsm2 := Lib.hid (fun m => hsm.out m)
            rw [decide_eq_true hdf] at hsm2
            have hsame1 := Lib.hid (show (nth (WQn x kind) (j + 1)).1 = (nth (WQn x kind) (j + 1 - 1)).1 by rw [← HQ.out, Nat.add_sub_cancel, ← HWj.out]; exact hdf)
            clear hdf hsm
            go_wp2
            refine wp_region_quiet_lit (by kernel_rfl) (by kernel_rfl) ?_
            repeat (go_big_quiet_step (with_reducible exact quiet_draws (hsm2.out _)))
            refine wpQuiet_nil ?_
            rintro _ ⟨nq, rfl⟩
            obtain ⟨W7, hW7⟩ : ∃ W, W = W6.drewN nq := ⟨_, rfl⟩
            have Hb7 := Lib.hid (show Below w4.heap.size w4 W7 by rw [hW7]; exact hbk.out.trans ((bel_draws rfl).mono hbk.out.size))
            rw [← hW7]
            clear cfk ctk i1 i3 hW7 cfj hsm2 hkn hkp
            go_upto_region 15 with fail
            have hkW2 : j + 1 < nW := by omega
            have HkW2 := Lib.hid hkW2
            generalize hkj : j + 1 = k at *
            have hkW3 : k < nW := HkW2.out
            have Hkj := Lib.hid hkj; clear hkj
            have cfk := (Hfk.out W7 (Hb24.out.trans (Hb7.out.mono Hb24.out.size))).1
            have ctk := (Htk.out W7 (Hb24.out.trans (Hb7.out.mono Hb24.out.size))).1
            obtain ⟨b2, o2, c2, i1, i2, i3⟩ := HPR.out W7 Hb7.out PN n1 n2 hPN2 hyS hzS
            have e1 := (cl.out 1 W7 (Hb4.out.trans (Hb7.out.mono Hb4.out.size))).trans G1.out
            go_wp2_with fail
            refine (Calls.mono (hcy.out W7 Hb7.out) ?_)
            rintro e w8 ⟨rfl, m8, rfl⟩
            go_wp2_with fail
            refine (Calls.mono (hcz.out (W7.drewN m8) (Hb7.out.trans ((bel_draws rfl).mono Hb7.out.size))) ?_)
            rintro e w9 ⟨rfl, m9, rfl⟩
            go_wp2_with fail
            have wy1 := HW1.out
            have wy2 : IntKind.i64.wrap ((q2 : Int) + (n2 : Int)) = (q2 : Int) + (n2 : Int) := IntWalk.i64_in _ (by omega)
            have wy3 : ((q2 : Int) + (n2 : Int)).toNat = q2 + n2 := by omega
            have wy4 : (0 : Int) ≤ (q2 : Int) + (n2 : Int) := by omega
            have wy5 : (q2 : Int) + (n2 : Int) < (M2 : Int) := by omega
            have hbD := Lib.hid (fun m => Hb7.out.trans ((bel_draws (w := W7) (m := m) rfl).mono Hb7.out.size))
            rw [← Hq3.out, ← HV2.out] at i3
            refine wp_region_quiet_lit (by kernel_rfl) (by kernel_rfl) ?_
            repeat (go_big_quiet_step (fail))
            refine wpQuiet_nil ?_
            rintro _ ⟨nq2, rfl⟩
            clear wy1 wy2 wy3 wy4 wy5 i1 i3 e1 cfk ctk
            by_cases hV0 : V = 0
            · have hng := Lib.hid (show ¬ goodQ x kind place s Q from fun h => by have := hgood.out.1 h; omega)
              rw [HQ.out] at hng
              subst hV0
              have hN2 := Lib.hid (hS.out.no hsame1.out hng.out)
              go_wp2
              go_roundw
              case rel => exact ⟨k + 1, by omega, by go_num, Lib.hid (by first | exact hbD.out _ | (rw [World.drewN_drewN]; exact hbD.out _)), .inr ⟨u, v, hN2, rfl, rfl⟩⟩
              case measure => have hmj := Hkj.out; simp [intOf]; omega
            · have hpos : 0 < V := by omega
              have hV3 : ¬ ((V : Int) = 0) := by omega
              go_wp2_with fail
              refine (Calls.mono (hlst.out _ (by first | exact hbD.out _ | (rw [World.drewN_drewN]; exact hbD.out _)) hpos) ?_)
              rintro e w10 ⟨vc, C, rfl, hfc, hLc⟩
              obtain ⟨ac, ncc, ccc, rfl⟩ := hfc.choose_spec.1.isSlice
              have Hb10 := Lib.hid (show Below w4.heap.size w4 w10 from (hbD.out (m8 + (m9 + nq2))).trans (by
                have h5 := hfc.bel
                have h6 := (hbD.out (m8 + (m9 + nq2))).size
                first | exact h5.mono h6 | (simp only [Nat.add_assoc] at h5 ⊢; exact h5.mono h6)))
              have HrC := Lib.hid (fun (W : World) (hb : Below w10.heap.size w10 W) => RdI.ok.keep (w' := W) (OI.leads.to _ _ _ _ _ hfc.choose_spec.1 fun j hj => OI.ok.lt hfc.choose_spec.1 j hj : RdI (· < w10.heap.size) w10 (.slice ac ncc ccc) C) fun j hj => hb.block j hj)
              have HLc := Lib.hid (show TailS x kind place s Q C from by
                unfold TailS
                rw [← HPN.out.2.1, HN1.out, HN2.out]
                exact hLc)
              have hEr := Lib.hid (show Er x kind place (A ++ (Q.1 ++ C)) (A ++ (Q.2 ++ C)) from ⟨A, Q.1, Q.2, C, ⟨hu.out.1, hu.out.2, by rw [Hq.out.1, Hn.out], Hq.out.2.1, Hq.out.2.2.1, by rw [← Hs.out]; exact HLc.out.1.1, by rw [← Hs.out]; exact HLc.out.1.2⟩, rfl, rfl⟩)
              have hd36 := Lib.hid (hEr.out.d36 (by rw [← HNB.out]; exact hnat.1.2) hk10.out Hbx2.out)
              have hCl := Lib.hid (show C.length ≤ 20 by have := HLc.out.1.len; omega)
              have hOwn := Lib.hid (fun (W0 : World) (h0 : Below w10.heap.size w10 W0) (W : World) (hb : Below W0.heap.size W0 W) => (show Calls Try.prog 146 #[.slice ar5 place cr5] W fun e w' => ∃ a n c, e = .returned (.slice a n c) ∧ Hid (Fresh OI W0 w' (.slice a n c) A) ∧ Below W0.heap.size W0 w' from by
                have hb0 := h0.trans (hb.mono h0.size)
                have hbw := Hb10.out.trans (hb0.mono Hb10.out.size)
                refine (specOwnF (Hrow.out W hbw).2 (fun j hj => by have h5 : j < w4.heap.size := hj; have := hbw.size; omega) (by rw [hu.out.1]; omega)).mono ?_
                rintro e w' ⟨v, rfl, S, h5, h6, h7⟩
                obtain ⟨a, n, c, rfl⟩ := h5.isSlice
                have h8 := hb.trans (h7.mono hb.size)
                exact ⟨a, n, c, rfl, Lib.hid ⟨S, h5, fun j hj => Nat.le_trans hb.size (h6 j hj), h8⟩, h8⟩))
              clear hfc hLc
              go_upto_region 19 with fail
              go_cut [22] from 60 to 166 (fun vo wx => vo = .string (wordS (A ++ (Q.1 ++ C))) ∧ Hid (Below w10.heap.size w10 wx))
              case first =>
                have D36F := Lib.hid (show D36 (A ++ Q.1 ++ C) by rw [List.append_assoc]; exact hd36.out.1.1)
                have hsc := Lib.hid (fun (W : World) (hb : Below w10.heap.size w10 W) => (show W.cell? ⟨gl, f, none⟩ = some (.slice ar5 place cr5) ∧ W.cell? ⟨bf, of' + k, none⟩ = some (.slice arf n crf) ∧ Below w10.heap.size w10 W from by
                  have hb0 := (Below.refl w10.heap.size w10).trans (hb.mono (Below.refl w10.heap.size w10).size)
                  have hbw := Hb10.out.trans (hb0.mono Hb10.out.size)
                  exact ⟨(Hrow.out W hbw).1, (Hfk.out W (Hb24.out.trans (hbw.mono Hb24.out.size))).1, hb⟩))
                obtain ⟨z1, z2, _⟩ := hsc.out w10 (Below.refl _ _)
                go_region_held3 (fun w' => w'.cell? ⟨gl, f, none⟩ = some (.slice ar5 place cr5) ∧ w'.cell? ⟨bf, of' + k, none⟩ = some (.slice arf n crf) ∧ Below w10.heap.size w10 w') ((refine hsc.out _ ?_; repeat' (first | with_reducible exact Below.refl _ _ | with_reducible exact Hba.out | with_reducible exact Hbb.out | with_reducible exact Hbc.out | with_reducible exact Hbd.out | with_reducible refine Below.drew ?_))) (first
                  | (go_at_call 146; refine (Calls.mono (hOwn.out w10 (Below.refl w10.heap.size w10) _ ((‹_ ∧ _ ∧ Below w10.heap.size w10 _›).2.2)) ?_); rintro e wa ⟨aa, na, ca, rfl, Hfa, hba⟩; have Hba := Lib.hid (show Below w10.heap.size w10 wa from hba); have sa := hsc.out wa Hba.out; clear hba)
                  | (refine step_appendF rfl (.tmp 126) (.tmp 130) 22 rfl (f := fI) (fun _ => rfl) Try.underlying22 infoI64 rfl Hfa.out ((Hfk.out wa (Hb24.out.trans ((Hb10.out.trans (((Below.refl w10.heap.size w10).trans (Hba.out.mono (Below.refl w10.heap.size w10).size)).mono Hb10.out.size)).mono Hb24.out.size))).2) (by rw [hu.out.1, Hq.out.1]; omega) (by rw [hu.out.1, Hq.out.1]; unfold maxLen; omega) rfl rfl ?_; intro vb wb hfb; obtain ⟨Tb, hob, hlb, hbb⟩ := hfb; obtain ⟨ab, nb, cb, rfl⟩ := hob.isSlice; have Hfb := Lib.hid (show Fresh OI w10 wb (.slice ab nb cb) (A ++ Q.1) from ⟨Tb, hob, hlb, hbb⟩); have Hbb := Lib.hid (show Below w10.heap.size w10 wb from hbb); have sb := hsc.out wb Hbb.out; clear hob hlb hbb)
                  | (refine step_appendF rfl (.tmp 131) (.tmp 132) 22 rfl (f := fI) (fun _ => rfl) Try.underlying22 infoI64 rfl Hfb.out (HrC.out wb ((Below.refl w10.heap.size w10).trans (Hfb.out.bel.mono (Below.refl w10.heap.size w10).size))) (by rw [List.length_append, hu.out.1, Hq.out.1]; have := hCl.out; omega) (by rw [List.length_append, hu.out.1, Hq.out.1]; have := hCl.out; unfold maxLen; omega) rfl rfl ?_; intro vc wc2 hfc; obtain ⟨Tc, hoc, hlc, hbc⟩ := hfc; obtain ⟨ac2, nc2, cc2, rfl⟩ := hoc.isSlice; have Hfc2 := Lib.hid (show Fresh OI w10 wc2 (.slice ac2 nc2 cc2) (A ++ Q.1 ++ C) from ⟨Tc, hoc, hlc, hbc⟩); have Hbc := Lib.hid (show Below w10.heap.size w10 wc2 from hbc); have sc := hsc.out wc2 Hbc.out; clear hoc hlc hbc)
                  | (go_at_call 153; refine (specFrom (P := (· < wc2.heap.size)) (OI.leads.to _ _ _ _ _ Hfc2.out.choose_spec.1 fun j hj => OI.ok.lt Hfc2.out.choose_spec.1 j hj) (fun j hj => hj) (by rw [List.length_append, List.length_append, hu.out.1, Hq.out.1]; have := hCl.out; omega) (fun i hi => D36F.out _ (nth_mem hi))).mono ?_; rintro e wd ⟨rfl, hbd⟩; have Hbd := Lib.hid (show Below w10.heap.size w10 wd from Hbc.out.trans (hbd.mono Hbc.out.size)); have sd := hsc.out wd Hbd.out; clear hbd))
                all_goals (go_wp2_with fail)
                all_goals go_meet
                all_goals exact ⟨by first | rfl | (rw [List.append_assoc]), Lib.hid ((Below.refl w10.heap.size w10).trans (Hbd.out.mono (Below.refl w10.heap.size w10).size))⟩
              case rest =>
              obtain ⟨W12, rfl⟩ : ∃ W, W = wc := ⟨_, rfl⟩
              obtain ⟨rfl, Hb12x⟩ := hcut
              go_upto_region 20 with fail
              go_cut [23] from 60 to 166 (fun vo wx => vo = .string (wordS (A ++ (Q.2 ++ C))) ∧ Hid (Below w10.heap.size w10 wx))
              case first =>
                have D36F := Lib.hid (show D36 (A ++ Q.2 ++ C) by rw [List.append_assoc]; exact hd36.out.1.2)
                have hsc := Lib.hid (fun (W : World) (hb : Below W12.heap.size W12 W) => (show W.cell? ⟨gl, f, none⟩ = some (.slice ar5 place cr5) ∧ W.cell? ⟨bt, ot + k, none⟩ = some (.slice art n crt) ∧ Below W12.heap.size W12 W from by
                  have hb0 := Hb12x.out.trans (hb.mono Hb12x.out.size)
                  have hbw := Hb10.out.trans (hb0.mono Hb10.out.size)
                  exact ⟨(Hrow.out W hbw).1, (Htk.out W (Hb24.out.trans (hbw.mono Hb24.out.size))).1, hb⟩))
                obtain ⟨z1, z2, _⟩ := hsc.out W12 (Below.refl _ _)
                go_region_held3 (fun w' => w'.cell? ⟨gl, f, none⟩ = some (.slice ar5 place cr5) ∧ w'.cell? ⟨bt, ot + k, none⟩ = some (.slice art n crt) ∧ Below W12.heap.size W12 w') ((refine hsc.out _ ?_; repeat' (first | with_reducible exact Below.refl _ _ | with_reducible exact Hba.out | with_reducible exact Hbb.out | with_reducible exact Hbc.out | with_reducible exact Hbd.out | with_reducible refine Below.drew ?_))) (first
                  | (go_at_call 146; refine (Calls.mono (hOwn.out W12 Hb12x.out _ ((‹_ ∧ _ ∧ Below W12.heap.size W12 _›).2.2)) ?_); rintro e wa ⟨aa, na, ca, rfl, Hfa, hba⟩; have Hba := Lib.hid (show Below W12.heap.size W12 wa from hba); have sa := hsc.out wa Hba.out; clear hba)
                  | (refine step_appendF rfl (.tmp 139) (.tmp 143) 22 rfl (f := fI) (fun _ => rfl) Try.underlying22 infoI64 rfl Hfa.out ((Htk.out wa (Hb24.out.trans ((Hb10.out.trans ((Hb12x.out.trans (Hba.out.mono Hb12x.out.size)).mono Hb10.out.size)).mono Hb24.out.size))).2) (by rw [hu.out.1, Hq.out.2.2.2.1]; omega) (by rw [hu.out.1, Hq.out.2.2.2.1]; unfold maxLen; omega) rfl rfl ?_; intro vb wb hfb; obtain ⟨Tb, hob, hlb, hbb⟩ := hfb; obtain ⟨ab, nb, cb, rfl⟩ := hob.isSlice; have Hfb := Lib.hid (show Fresh OI W12 wb (.slice ab nb cb) (A ++ Q.2) from ⟨Tb, hob, hlb, hbb⟩); have Hbb := Lib.hid (show Below W12.heap.size W12 wb from hbb); have sb := hsc.out wb Hbb.out; clear hob hlb hbb)
                  | (refine step_appendF rfl (.tmp 144) (.tmp 145) 22 rfl (f := fI) (fun _ => rfl) Try.underlying22 infoI64 rfl Hfb.out (HrC.out wb (Hb12x.out.trans (Hfb.out.bel.mono Hb12x.out.size))) (by rw [List.length_append, hu.out.1, Hq.out.2.2.2.1]; have := hCl.out; omega) (by rw [List.length_append, hu.out.1, Hq.out.2.2.2.1]; have := hCl.out; unfold maxLen; omega) rfl rfl ?_; intro vc wc2 hfc; obtain ⟨Tc, hoc, hlc, hbc⟩ := hfc; obtain ⟨ac2, nc2, cc2, rfl⟩ := hoc.isSlice; have Hfc2 := Lib.hid (show Fresh OI W12 wc2 (.slice ac2 nc2 cc2) (A ++ Q.2 ++ C) from ⟨Tc, hoc, hlc, hbc⟩); have Hbc := Lib.hid (show Below W12.heap.size W12 wc2 from hbc); have sc := hsc.out wc2 Hbc.out; clear hoc hlc hbc)
                  | (go_at_call 153; refine (specFrom (P := (· < wc2.heap.size)) (OI.leads.to _ _ _ _ _ Hfc2.out.choose_spec.1 fun j hj => OI.ok.lt Hfc2.out.choose_spec.1 j hj) (fun j hj => hj) (by rw [List.length_append, List.length_append, hu.out.1, Hq.out.2.2.2.1]; have := hCl.out; omega) (fun i hi => D36F.out _ (nth_mem hi))).mono ?_; rintro e wd ⟨rfl, hbd⟩; have Hbd := Lib.hid (show Below W12.heap.size W12 wd from Hbc.out.trans (hbd.mono Hbc.out.size)); have sd := hsc.out wd Hbd.out; clear hbd))
                all_goals (go_wp2_with fail)
                all_goals go_meet
                all_goals exact ⟨by first | rfl | (rw [List.append_assoc]), Lib.hid (Hb12x.out.trans (Hbd.out.mono Hb12x.out.size))⟩
              case rest =>
              obtain ⟨W13, rfl⟩ : ∃ W, W = wc := ⟨_, rfl⟩
              obtain ⟨rfl, Hb13⟩ := hcut
              have hb413 := Lib.hid (Hb10.out.trans (Hb13.out.mono Hb10.out.size))
              have hw1 := less_word hd36.out.1.1 hdS.out.1.1
              have hw2 := same_word hd36.out.1.1 hdS.out.1.1
              have hw3 := less_word hd36.out.1.2 hdS.out.1.2
              have Hw1 := Lib.hid hw1; have Hw2 := Lib.hid hw2; have Hw3 := Lib.hid hw3
              clear hw1 hw2 hw3
              by_cases h1 : lexL (A ++ (Q.1 ++ C)) u = true
              · have H1 := Lib.hid h1
                clear h1
                have hIS := Lib.hid (show InS x kind place s A (k + 1) (A ++ (Q.1 ++ C)) (A ++ (Q.2 ++ C)) from by
                  have h5 := hS.out.yes hsame1.out (by rw [← HQ.out]; exact hgood.out.2 hpos) (by rw [← HQ.out]; exact HLc.out) (u := A ++ (Q.1 ++ C)) (y := A ++ (Q.2 ++ C)) (by rw [← HQ.out]) (by rw [← HQ.out])
                  rw [if_pos (.inl H1.out), if_pos (.inl H1.out)] at h5
                  exact h5)
                have g1 : Op.bytesLess (wordS (A ++ (Q.1 ++ C))).toList (wordS u).toList = true := Hw1.out.trans H1.out
                go_wp2
                go_roundw
                case rel => exact ⟨k + 1, by omega, by go_num, hb413, .inr ⟨_, _, hIS, rfl, rfl⟩⟩
                case measure => have hmj := Hkj.out; simp [intOf]; omega
              · have h1f : lexL (A ++ (Q.1 ++ C)) u = false := by simpa using h1
                have H1 := Lib.hid h1f
                clear h1 h1f
                by_cases h2 : A ++ (Q.1 ++ C) = u
                · have H2 := Lib.hid h2
                  clear h2
                  by_cases h3 : lexL (A ++ (Q.2 ++ C)) v = true
                  · have H3 := Lib.hid h3
                    clear h3
                    have hIS := Lib.hid (show InS x kind place s A (k + 1) (A ++ (Q.1 ++ C)) (A ++ (Q.2 ++ C)) from by
                      have h5 := hS.out.yes hsame1.out (by rw [← HQ.out]; exact hgood.out.2 hpos) (by rw [← HQ.out]; exact HLc.out) (u := A ++ (Q.1 ++ C)) (y := A ++ (Q.2 ++ C)) (by rw [← HQ.out]) (by rw [← HQ.out])
                      rw [if_pos (.inr ⟨H2.out, H3.out⟩), if_pos (.inr ⟨H2.out, H3.out⟩)] at h5
                      exact h5)
                    have g1 : Op.bytesLess (wordS (A ++ (Q.1 ++ C))).toList (wordS u).toList = false := Hw1.out.trans H1.out
                    have g2 : ((wordS (A ++ (Q.1 ++ C))).toList == (wordS u).toList) = true := Hw2.out.trans (by simpa using H2.out)
                    have g3 : Op.bytesLess (wordS (A ++ (Q.2 ++ C))).toList (wordS v).toList = true := Hw3.out.trans H3.out
                    go_wp2
                    go_roundw
                    case rel => exact ⟨k + 1, by omega, by go_num, hb413, .inr ⟨_, _, hIS, rfl, rfl⟩⟩
                    case measure => have hmj := Hkj.out; simp [intOf]; omega
                  · have h3f : lexL (A ++ (Q.2 ++ C)) v = false := by simpa using h3
                    have H3 := Lib.hid h3f
                    clear h3 h3f
                    have hIS := Lib.hid (show InS x kind place s A (k + 1) u v from by
                      have h5 := hS.out.yes hsame1.out (by rw [← HQ.out]; exact hgood.out.2 hpos) (by rw [← HQ.out]; exact HLc.out) (u := A ++ (Q.1 ++ C)) (y := A ++ (Q.2 ++ C)) (by rw [← HQ.out]) (by rw [← HQ.out])
                      rw [if_neg (fun h : lexL (A ++ (Q.1 ++ C)) u = true ∨ A ++ (Q.1 ++ C) = u ∧ lexL (A ++ (Q.2 ++ C)) v = true => by rw [H1.out, H3.out] at h; simp at h), if_neg (fun h : lexL (A ++ (Q.1 ++ C)) u = true ∨ A ++ (Q.1 ++ C) = u ∧ lexL (A ++ (Q.2 ++ C)) v = true => by rw [H1.out, H3.out] at h; simp at h)] at h5
                      exact h5)
                    have g1 : Op.bytesLess (wordS (A ++ (Q.1 ++ C))).toList (wordS u).toList = false := Hw1.out.trans H1.out
                    have g2 : ((wordS (A ++ (Q.1 ++ C))).toList == (wordS u).toList) = true := Hw2.out.trans (by simpa using H2.out)
                    have g3 : Op.bytesLess (wordS (A ++ (Q.2 ++ C))).toList (wordS v).toList = false := Hw3.out.trans H3.out
                    go_wp2
                    go_roundw
                    case rel => exact ⟨k + 1, by omega, by go_num, hb413, .inr ⟨_, _, hIS, rfl, rfl⟩⟩
                    case measure => have hmj := Hkj.out; simp [intOf]; omega
                · have H2 := Lib.hid h2
                  clear h2
                  have hIS := Lib.hid (show InS x kind place s A (k + 1) u v from by
                    have h5 := hS.out.yes hsame1.out (by rw [← HQ.out]; exact hgood.out.2 hpos) (by rw [← HQ.out]; exact HLc.out) (u := A ++ (Q.1 ++ C)) (y := A ++ (Q.2 ++ C)) (by rw [← HQ.out]) (by rw [← HQ.out])
                    rw [if_neg (fun h : lexL (A ++ (Q.1 ++ C)) u = true ∨ A ++ (Q.1 ++ C) = u ∧ lexL (A ++ (Q.2 ++ C)) v = true => by rw [H1.out] at h; rcases h with h | h; exact absurd h (by decide); exact H2.out h.1), if_neg (fun h : lexL (A ++ (Q.1 ++ C)) u = true ∨ A ++ (Q.1 ++ C) = u ∧ lexL (A ++ (Q.2 ++ C)) v = true => by rw [H1.out] at h; rcases h with h | h; exact absurd h (by decide); exact H2.out h.1)] at h5
                    exact h5)
                  have g1 : Op.bytesLess (wordS (A ++ (Q.1 ++ C))).toList (wordS u).toList = false := Hw1.out.trans H1.out
                  have g2 : ((wordS (A ++ (Q.1 ++ C))).toList == (wordS u).toList) = false := Hw2.out.trans (by simpa using H2.out)
                  go_wp2
                  go_roundw
                  case rel => exact ⟨k + 1, by omega, by go_num, hb413, .inr ⟨_, _, hIS, rfl, rfl⟩⟩
                  case measure => have hmj := Hkj.out; simp [intOf]; omega
        · obtain ⟨hkn⟩ : Nonempty (k = nW) := ⟨by omega⟩
          have hkl := Lib.hid (show k = (WQn x kind).length by have h5 : WL.length = (WQn x kind).length := congrArg List.length HWL.out; have h6 := HnW.out; omega)
          rcases hst with ⟨hN, rfl, rfl⟩ | ⟨u, v, hS, rfl, rfl⟩
          · have hno2 := Lib.hid (show ∀ j, j < f + 1 → ¬ canN x kind place (runN x 0 x.start.toNat (nth L j)) from fun j hj => by
              rcases Nat.lt_succ_iff_lt_or_eq.1 hj with h5 | rfl
              · exact hno.out j h5
              · have h6 := hN.out
                rw [hkl.out] at h6
                rw [← HA.out, ← Hs.out]
                exact h6.done (by have := Hbx2.out; omega))
            clear hkn
            go_wp2
            go_roundw
            case rel => exact ⟨f + 1, by omega, by go_num, hno2, hbk⟩
            case measure => simp [intOf]; omega
          · have hErS := Lib.hid (hS.out.er (by have := Hbx2.out; omega) (by rw [← hkl.out]; exact Nat.le_refl _) hu.out.1 hu.out.2 Hs.out.symm)
            have hdS := Lib.hid (hErS.out.d36 (by rw [← HNB.out]; exact hnat.1.2) hk10.out Hbx2.out)
            have hneS : ((wordS u).toList == []) = false := word_ne (by have := hdS.out.2; rw [← Hn.out] at this; omega)
            have hA2 := Lib.hid (hS.out.done (by have := Hbx2.out; omega) (by rw [← hkl.out]; exact Nat.le_refl _) (by rw [HA.out]; exact HL.out.least hfL (by rw [← HA.out, ← Hs.out]; exact hS.out.can (by have := Hbx2.out; omega) (by rw [← hkl.out]; exact Nat.le_refl _)) hno.out) Hs.out.symm (.inl hkl.out))
            have hbe := Lib.hid (Hb4.out.trans (hbk.out.mono Hb4.out.size))
            clear hkn
            go_wp2
            refine bodyPost_ret (v := .tuple #[_, _, _]) (by simp [results, Try.results105, go_sem]; first | done | exact ⟨rfl, rfl, rfl⟩) rfl ?_
            exact ⟨hbe.out, .inr ⟨u, v, hA2.out, rfl⟩⟩
    · obtain ⟨hfn⟩ : Nonempty (f = nL) := ⟨by omega⟩
      have hnone := Lib.hid (HL.out.none (kind := kind) (by rw [← HnL.out, ← hfn]; exact hno.out))
      clear hfn
      go_wp2
      refine bodyPost_ret (v := .tuple #[_, _, _]) (by simp [results, Try.results105, go_sem]; first | done | exact ⟨rfl, rfl, rfl⟩) rfl ?_
      exact ⟨Hb5.out, .inl ⟨hnone.out, rfl⟩⟩
end Go.Proofs.Ytnpkanlieflbiaa
/- The first undetected error: what both sides tell; the reference's search, walked. -/
namespace Go.Proofs.Ytnpkanlieflbiaa
open Go.RowKit
set_option linter.unusedVariables false

/-! ### What both sides tell -/
def FuOk (x : Chn) (kind : Int) (q : List Int × List Int) : Prop := (vC x = true ∧ kindOk kind x.base = true) ∧ All2 x kind q.1 q.2
open Classical in
noncomputable def fuR (x : Chn) (kind : Int) : Option (List Int × List Int) := if h : ∃ q, FuOk x kind q then some (Classical.choose h) else none
noncomputable def fuW (x : Chn) (kind : Int) : ByteArray := match fuR x kind with | some q => wordS q.1 | none => ⟨#[]⟩
noncomputable def fuV (x : Chn) (kind : Int) : ByteArray := match fuR x kind with | some q => wordS q.2 | none => ⟨#[]⟩
noncomputable def fuB (x : Chn) (kind : Int) : Bool := (fuR x kind).isSome
theorem fu_no {x : Chn} {kind : Int} (h : ¬ ∃ q, FuOk x kind q) : fuW x kind = ⟨#[]⟩ ∧ fuV x kind = ⟨#[]⟩ ∧ fuB x kind = false := by
  have e : fuR x kind = none := by unfold fuR; rw [dif_neg h]
  exact ⟨by simp [fuW, e], by simp [fuV, e], by simp [fuB, e]⟩
theorem fu_yes {x : Chn} {kind : Int} {u v : List Int} (h1 : vC x = true) (h2 : kindOk kind x.base = true) (h : All2 x kind u v) : fuW x kind = wordS u ∧ fuV x kind = wordS v ∧ fuB x kind = true := by
  have hex : ∃ q, FuOk x kind q := ⟨(u, v), ⟨h1, h2⟩, h⟩
  have e : fuR x kind = some (Classical.choose hex) := by unfold fuR; rw [dif_pos hex]
  have hs := Classical.choose_spec hex
  have h3 := hs.2.eq h
  exact ⟨by simp [fuW, e, h3.1], by simp [fuV, e, h3.2], by simp [fuB, e]⟩
theorem fu_v {x : Chn} {kind : Int} (h : vC x = false) : ¬ ∃ q, FuOk x kind q := by
  rintro ⟨q, ⟨h1, _⟩, _⟩
  rw [h] at h1; exact absurd h1 (by decide)
theorem fu_k {x : Chn} {kind : Int} (h : kindOk kind x.base = false) : ¬ ∃ q, FuOk x kind q := by
  rintro ⟨q, ⟨_, h1⟩, _⟩
  rw [h] at h1; exact absurd h1 (by decide)
theorem fu_none {x : Chn} {kind : Int} {k : Nat} (h : NoneTo x kind k) (hk : ∀ p, p < k ↔ p + errLen kind ≤ x.n) : ¬ ∃ q, FuOk x kind q := by
  rintro ⟨q, _, ⟨⟨p, hp, hw⟩, _⟩, _⟩
  exact h p ((hk p).2 hp) _ hw

set_option maxHeartbeats 3200000 in
set_option maxRecDepth 100000 in
theorem specFirstUndetected {B : Nat} {v : Value} {x : Chn} {w : World} (h : RdC (· < B) w v x) (hB : B ≤ w.heap.size) (kind : Int) :
    Calls Try.prog 51 #[v, .int .i64 kind] w fun e w' => e = .returned (.tuple #[.string (fuW x kind), .string (fuV x kind), .bool (fuB x kind)]) ∧ Below w.heap.size w w' := by
  obtain ⟨u, p, rfl, hu, hp⟩ := h
  obtain ⟨a, c, rfl, h1, h2⟩ := hu.isSlice
  obtain ⟨a', c', rfl, h3, h4⟩ := hp.isSlice
  have hbx := Lib.hid ((Below.refl w.heap.size w).alloc (Nat.le_refl _) (.cells #[.int .i64 x.base, .int .i64 x.states, .int .i64 x.start, .int .i64 x.stop, .slice a x.tables.length c, .slice a' x.places.length c'] 28))
  have Hbx := Lib.hid (BoxC.boxed hu hp hB); clear hu hp
  unfold aggC
  cases hv : vC x
  · have hr := Lib.hid (fu_no (fu_v (kind := kind) hv))
    have Hv := Lib.hid hv; clear hv
    go_enter Try.func51, Try.ntmps51
    go_wp2_with fail
    refine (specL02Is Hbx.out _ Hv.out).mono ?_
    rintro e w1 ⟨rfl, m, rfl⟩
    go_wp2
    refine bodyPost_ret (v := .tuple #[.string ⟨#[]⟩, .string ⟨#[]⟩, .bool false]) (by simp [results, Try.results51, go_sem]) rfl ?_
    exact ⟨by rw [hr.out.1, hr.out.2.1, hr.out.2.2], Below.draws hbx.out _⟩
  have hvc := vC_iff.1 hv
  have hel := errLen_bd kind
  have Hv' := Lib.hid hv
  have Hv := Lib.hid hvc
  have hCS := Lib.hid (fun W => specSize x.base kind W)
  cases hko : kindOk kind x.base
  · have hr := Lib.hid (fu_no (fu_k (x := x) hko))
    have hs0 := sizeK_no hko
    rw [hs0] at hCS
    clear hv hvc hko hs0
    go_enter Try.func51, Try.ntmps51
    go_wp2_with fail
    refine (specL02Is Hbx.out _ Hv'.out).mono ?_
    rintro e w1 ⟨rfl, m, rfl⟩
    go_wp2_with fail
    refine (Calls.mono (hCS.out _) ?_)
    rintro e w' ⟨rfl, rfl⟩
    go_wp2
    refine bodyPost_ret (v := .tuple #[.string ⟨#[]⟩, .string ⟨#[]⟩, .bool false]) (by simp [results, Try.results51, go_sem]) rfl ?_
    exact ⟨by rw [hr.out.1, hr.out.2.1, hr.out.2.2], Below.draws hbx.out _⟩
  have hs0 := sizeK_yes hko
  rw [hs0] at hCS
  have Hko := Lib.hid hko
  have hk10 := Lib.hid (show kind = 5 → 10 ≤ x.b from fun h5 => by
    have hko' := hko
    simp only [kindOk, inB_true, Bool.and_eq_true, Bool.or_eq_true, decide_eq_true_eq] at hko'
    rcases hko'.2 with h | h
    · exact absurd h5 h
    · show 10 ≤ x.base.toNat; omega)
  have hpl := Hv.out.nat.2.2.2.2
  obtain ⟨NP, hNP⟩ : ∃ k, k = x.places.length := ⟨_, rfl⟩
  have HNP := Lib.hid (show NP = x.n from hNP)
  rw [show x.n = NP from hNP.symm] at hpl
  rw [← hNP] at h3 hbx Hbx ⊢
  obtain ⟨n, hn⟩ : ∃ n, n = errLen kind := ⟨_, rfl⟩
  rw [← hn] at hel hCS
  have Hn := Lib.hid hn
  have hb0 : ((n : Int) == 0) = false := by simp only [beq_eq_false_iff_ne]; omega
  have hsz := Lib.hid (alloc_size w (.cells #[.int .i64 x.base, .int .i64 x.states, .int .i64 x.start, .int .i64 x.stop, .slice a x.tables.length c, .slice a' NP c'] 28))
  have hHe := Lib.hid (show (w.alloc (.cells #[.int .i64 x.base, .int .i64 x.states, .int .i64 x.start, .int .i64 x.stop, .slice a x.tables.length c, .slice a' NP c'] 28)).heap[w.heap.size]? = some (.cells #[.int .i64 x.base, .int .i64 x.states, .int .i64 x.start, .int .i64 x.stop, .slice a x.tables.length c, .slice a' NP c'] 28 (0, 0)) from heap_alloc_new w _)
  unfold maxLen at h4
  clear hv hvc hko hs0 hNP hn
  go_enter Try.func51, Try.ntmps51
  go_wp2_with fail
  refine (specL02Is Hbx.out _ Hv'.out).mono ?_
  rintro e w1 ⟨rfl, m, hw1⟩
  have Hb1 := Lib.hid (show BoxC (· < B) w1 w.heap.size x by rw [← hw1]; exact (Hbx.out.draws m))
  have Hbel1 := Lib.hid (show Below w.heap.size w w1 by rw [← hw1]; exact Below.draws hbx.out m)
  have Hx1 := Lib.hid (show w1.heap[w.heap.size]? = some (.cells #[.int .i64 x.base, .int .i64 x.states, .int .i64 x.start, .int .i64 x.stop, .slice a x.tables.length c, .slice a' NP c'] 28 (0, 0)) by rw [← hw1]; exact hHe.out)
  have hlt1 : w.heap.size < w1.heap.size := heap_lt Hx1.out
  have b0 := heap_cell Hx1.out (i := 0) rfl
  clear hw1 hbx Hbx hsz hHe
  go_wp2_with fail
  refine (Calls.mono (hCS.out _) ?_)
  rintro e w' ⟨rfl, rfl⟩
  go_wp2
  clear b0
  go_loopw [7, 8, 9] (fun wv rv pv wr => ∃ p : Nat, (p = 0 ∨ p + n ≤ NP + 1) ∧ pv = .int .i64 p ∧ Hid (Below w1.heap.size w1 wr) ∧ ((Hid (NoneTo x kind p) ∧ wv = .string ⟨#[]⟩ ∧ rv = .string ⟨#[]⟩) ∨ ∃ u v, Hid (Upto x kind p u v) ∧ wv = .string (wordS u) ∧ rv = .string (wordS v))) (fun _ _ pv _ => NP + 1 - (intOf pv).toNat)
  case atStart => exact ⟨0, .inl rfl, rfl, Lib.hid (Below.refl _ _), .inl ⟨Lib.hid (NoneTo.zero _ _), rfl, rfl⟩⟩
  case round =>
    obtain ⟨p, hp, rfl, hb, hst⟩ := hrel
    obtain ⟨W2, rfl⟩ : ∃ W, W = wr := ⟨_, rfl⟩
    have hx2 := below_heap hb.out Hx1.out
    have b0 := heap_cell hx2 (i := 0) rfl
    have b5 := heap_cell hx2 (i := 5) rfl
    have hl2 := heap_lt hx2
    have wy1 : IntKind.i64.wrap ((p : Int) + (n : Int)) = (p : Int) + (n : Int) := IntWalk.i64_in _ (by omega)
    clear hx2
    by_cases hlt : p + n ≤ NP
    · have hle : (p : Int) + (n : Int) ≤ (NP : Int) := by omega
      have hcl := Lib.hid (fun m => specFirst (kind := kind) (place := p) (w := W2.drewN m) ((Hb1.out.below hb.out (by omega) hlt1).draws m) (by have := hb.out.size; show B ≤ W2.heap.size; omega) (by show w.heap.size < W2.heap.size; exact hl2) Hv.out Hko.out (by rw [← Hn.out, ← HNP.out]; exact hlt))
      have hbw := Lib.hid (fun m w1' (hb' : Below (W2.drewN m).heap.size (W2.drewN m) w1') => (Below.draws hb.out m).trans (hb'.mono (by show w1.heap.size ≤ W2.heap.size; exact hb.out.size)))
      go_wp2
      go_quiet (exact Calls.quiet_of_same ((hCS.out _).mono fun _ _ h => ⟨h.1, h.2.symm⟩))
      go_wp2_with fail
      refine (Calls.mono (hcl.out _) ?_)
      rintro e w3 ⟨hb3', hres⟩
      have hb3 := Lib.hid (hbw.out _ _ hb3'); clear hb3'
      clear b0 b5 wy1
      rcases hres with ⟨hno, rfl⟩ | ⟨U, Y, hA2, rfl⟩
      · have Hno := Lib.hid hno; clear hno
        rcases hst with ⟨hN, rfl, rfl⟩ | ⟨u, v, hU, rfl, rfl⟩
        · have hN2 := Lib.hid (hN.out.no Hno.out)
          go_wp2
          go_roundw
          case rel => exact ⟨p + 1, .inr (by omega), by go_num, hb3, .inl ⟨hN2, rfl, rfl⟩⟩
          case measure => simp [intOf]; omega
        · have hN2 := Lib.hid (hU.out.no Hno.out)
          go_wp2
          go_roundw
          case rel => exact ⟨p + 1, .inr (by omega), by go_num, hb3, .inr ⟨u, v, hN2, rfl, rfl⟩⟩
          case measure => simp [intOf]; omega
      · have HA2 := Lib.hid hA2; clear hA2
        rcases hst with ⟨hN, rfl, rfl⟩ | ⟨u, v, hU, rfl, rfl⟩
        · have hN2 := Lib.hid (hN.out.yes HA2.out)
          go_wp2
          go_roundw
          case rel => exact ⟨p + 1, .inr (by omega), by go_num, hb3, .inr ⟨U, Y, hN2, rfl, rfl⟩⟩
          case measure => simp [intOf]; omega
        · have hA2 := HA2
          have hdU := Lib.hid (hA2.out.1.1.choose_spec.d36 Hv.out.nat.1.2 hk10.out Hv.out.nat.1.1)
          have hdY := Lib.hid (hA2.out.2.1.d36 Hv.out.nat.1.2 hk10.out Hv.out.nat.1.1)
          have hdu := Lib.hid (hU.out.wrd.1.choose_spec.2.choose_spec.d36 Hv.out.nat.1.2 hk10.out Hv.out.nat.1.1)
          have hdv := Lib.hid (hU.out.err.1.choose_spec.2.d36 Hv.out.nat.1.2 hk10.out Hv.out.nat.1.1)
          have hne : ((wordS u).toList == []) = false := word_ne (by have := hdu.out.2; have := errLen_bd kind; omega)
          have hw1 := less_word hdU.out.1.1 hdu.out.1.1
          have hw2 := same_word hdU.out.1.1 hdu.out.1.1
          have hw3 := less_word hdY.out.1.2 hdv.out.1.2
          have Hw1 := Lib.hid hw1; have Hw2 := Lib.hid hw2; have Hw3 := Lib.hid hw3
          clear hw1 hw2 hw3
          by_cases h1 : lexL U u = true
          · have H1 := Lib.hid h1
            clear h1
            have hIS := Lib.hid (hU.out.take hA2.out H1.out)
            have g1 : Op.bytesLess (wordS U).toList (wordS u).toList = true := Hw1.out.trans H1.out
            go_wp2
            go_roundw
            case rel => exact ⟨p + 1, .inr (by omega), by go_num, hb3, .inr ⟨_, _, hIS, rfl, rfl⟩⟩
            case measure => simp [intOf]; omega
          · have h1f : lexL U u = false := by simpa using h1
            have H1 := Lib.hid h1f
            clear h1 h1f
            by_cases h2 : U = u
            · have H2 := Lib.hid h2
              have hS := Lib.hid (hU.out.same (by rw [← h2]; exact hA2.out))
              clear h2
              by_cases h3 : lexL Y v = true
              · have H3 := Lib.hid h3
                clear h3
                have hIS := Lib.hid (show Upto x kind (p + 1) U Y from by have h5 := hS.out; rw [if_pos H3.out, ← H2.out] at h5; exact h5)
                have g1 : Op.bytesLess (wordS U).toList (wordS u).toList = false := Hw1.out.trans H1.out
                have g2 : ((wordS U).toList == (wordS u).toList) = true := Hw2.out.trans (by simpa using H2.out)
                have g3 : Op.bytesLess (wordS Y).toList (wordS v).toList = true := Hw3.out.trans H3.out
                go_wp2
                go_roundw
                case rel => exact ⟨p + 1, .inr (by omega), by go_num, hb3, .inr ⟨_, _, hIS, rfl, rfl⟩⟩
                case measure => simp [intOf]; omega
              · have h3f : lexL Y v = false := by simpa using h3
                have H3 := Lib.hid h3f
                clear h3 h3f
                have hIS := Lib.hid (show Upto x kind (p + 1) u v from by have h5 := hS.out; rw [H3.out] at h5; simpa using h5)
                have g1 : Op.bytesLess (wordS U).toList (wordS u).toList = false := Hw1.out.trans H1.out
                have g2 : ((wordS U).toList == (wordS u).toList) = true := Hw2.out.trans (by simpa using H2.out)
                have g3 : Op.bytesLess (wordS Y).toList (wordS v).toList = false := Hw3.out.trans H3.out
                go_wp2
                go_roundw
                case rel => exact ⟨p + 1, .inr (by omega), by go_num, hb3, .inr ⟨_, _, hIS, rfl, rfl⟩⟩
                case measure => simp [intOf]; omega
            · have H2 := Lib.hid h2
              clear h2
              have hlu : lexL u U = true := by
                cases h : lexL u U
                · exact absurd (lexL_tri H1.out h) H2.out
                · rfl
              have hIS := Lib.hid (hU.out.leave hA2.out hlu)
              clear hlu
              have g1 : Op.bytesLess (wordS U).toList (wordS u).toList = false := Hw1.out.trans H1.out
              have g2 : ((wordS U).toList == (wordS u).toList) = false := Hw2.out.trans (by simpa using H2.out)
              go_wp2
              go_roundw
              case rel => exact ⟨p + 1, .inr (by omega), by go_num, hb3, .inr ⟨_, _, hIS, rfl, rfl⟩⟩
              case measure => simp [intOf]; omega
    · have hle : ¬ (p : Int) + (n : Int) ≤ (NP : Int) := by omega
      have hkp := Lib.hid (show ∀ q, q + errLen kind ≤ x.n → q < p from fun q hq => by rw [← Hn.out, ← HNP.out] at hq; omega)
      have hbw := Lib.hid (fun m => Hbel1.out.trans ((Below.draws hb.out m).mono Hbel1.out.size))
      rcases hst with ⟨hN, rfl, rfl⟩ | ⟨u, v, hU, rfl, rfl⟩
      · have hr := Lib.hid (fu_no (show ¬ ∃ q, FuOk x kind q from by
          rintro ⟨q, _, ⟨⟨r, hr, hw⟩, _⟩, _⟩
          exact hN.out r (hkp.out r hr) _ hw))
        go_wp2
        go_quiet (exact Calls.quiet_of_same ((hCS.out _).mono fun _ _ h => ⟨h.1, h.2.symm⟩))
        go_wp2
        refine bodyPost_ret (v := .tuple #[.string ⟨#[]⟩, .string ⟨#[]⟩, .bool false]) (by simp [results, Try.results51, go_sem]) rfl ?_
        exact ⟨by rw [hr.out.1, hr.out.2.1, hr.out.2.2], hbw.out _⟩
      · have hdu := Lib.hid (hU.out.wrd.1.choose_spec.2.choose_spec.d36 Hv.out.nat.1.2 hk10.out Hv.out.nat.1.1)
        have hne : ((wordS u).toList == []) = false := word_ne (by have := hdu.out.2; have := errLen_bd kind; omega)
        have hr := Lib.hid (fu_yes Hv'.out Hko.out (show All2 x kind u v from by
          refine hU.out.all fun q => ⟨fun hq => ?_, fun hq => hkp.out q hq⟩
          rw [← Hn.out, ← HNP.out]
          omega))
        go_wp2
        go_quiet (exact Calls.quiet_of_same ((hCS.out _).mono fun _ _ h => ⟨h.1, h.2.symm⟩))
        go_wp2
        refine bodyPost_ret (v := .tuple #[.string (wordS u), .string (wordS v), .bool true]) (by simp [results, Try.results51, go_sem]) rfl ?_
        exact ⟨by rw [hr.out.1, hr.out.2.1, hr.out.2.2], hbw.out _⟩
end Go.Proofs.Ytnpkanlieflbiaa
