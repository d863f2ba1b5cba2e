/- WordAt, walked on both sides. -/
import Derived.Test.YtnpkanlieflbiaaD7
namespace Go.Proofs.Ytnpkanlieflbiaa
open Go.RowKit
set_option linter.unusedVariables false

def wrdB (x : Chn) (R : Int) : Bool := vC x && inB R 0 ((endsV x 0 x.start.toNat : Nat) - 1)
def wrdS (x : Chn) (R : Int) : ByteArray := if wrdB x R then wordS (wordG x R.toNat) else ⟨#[]⟩
theorem wrd_no {x : Chn} {R : Int} (h : wrdB x R = false) : wrdS x R = ⟨#[]⟩ := by simp [wrdS, h]
theorem wrd_yes {x : Chn} {R : Int} (h : wrdB x R = true) : wrdS x R = wordS (wordG x R.toNat) := by simp [wrdS, h]
theorem wrdB_v {x : Chn} {R : Int} (h : vC x = false) : wrdB x R = false := by simp [wrdB, h]
theorem wrdB_at {x : Chn} {R : Int} {b : Bool} (h : vC x = true) (h2 : inB R 0 ((endsV x 0 x.start.toNat : Nat) - 1) = b) : wrdB x R = b := by simp [wrdB, h, h2]
theorem wordG_ok {x : Chn} (hv : VC x) {R : Nat} (hR : R < endsV x 0 x.start.toNat) : (wordG x R).length = x.n ∧ (∀ i, i < (wordG x R).length → 0 ≤ nth (wordG x R) i ∧ nth (wordG x R) i < 36) := by
  have h := wordTo_inv hv hR x.n (Nat.le_refl _)
  have hb := hv.nat.1
  have hl : (wordG x R).length = x.n := h.len
  refine ⟨hl, fun i hi => ?_⟩
  have := h.sym i (by omega)
  unfold wordG
  omega

set_option maxRecDepth 10000 in
theorem implWordAtF {B : Nat} {v : Value} {x : Chn} {w : World} (h : RdC (· < B) w v x) (hB : B ≤ w.heap.size) (hn : szC x ≤ 1048576) (R : Int) :
    Calls Try.prog 56 #[v, .int .i64 R] w fun e w' => e = .returned (.tuple #[.string (wrdS x R), .bool (wrdB x R)]) ∧ Below w.heap.size w w' := by
  have Hr := Lib.hid h
  obtain ⟨u, p, rfl, hu, hp⟩ := h
  obtain ⟨a, c, rfl, h1, h2⟩ := hu.isSlice
  obtain ⟨a', c', rfl, h3, h4⟩ := hp.isSlice
  have hbx := Lib.hid ((Below.refl w.heap.size w).alloc (Nat.le_refl _) (.cells #[.int .i64 x.base, .int .i64 x.states, .int .i64 x.start, .int .i64 x.stop, .slice a x.tables.length c, .slice a' x.places.length c'] 28))
  have Hbx := Lib.hid (BoxC.boxed hu hp hB); clear hu hp
  have hsz := Lib.hid (alloc_size w (.cells #[.int .i64 x.base, .int .i64 x.states, .int .i64 x.start, .int .i64 x.stop, .slice a x.tables.length c, .slice a' x.places.length c'] 28))
  unfold aggC
  cases hv : vC x
  · have hr := Lib.hid (wrdB_v (R := R) hv)
    have Hv := Lib.hid hv; clear hv
    go_enter Try.func56, Try.ntmps56
    go_wp2_with fail
    refine (implValidChain (Rd.below RdC.ok Hr.out (hbx.out.mono hB)) (by rw [hsz.out]; omega) hn _ Hv.out).mono ?_
    rintro e w1 ⟨rfl, hb⟩
    have Hb := Lib.hid (hbx.out.trans (hb.mono (by rw [hsz.out]; omega))); clear hb
    go_wp2
    go_ret2
    exact ⟨ret_sb (wrd_no hr.out).symm hr.out.symm, Hb.out⟩
  · have hvc := vC_iff.1 hv
    have hnat := hvc.nat
    have hst := hvc.start
    have hE15 := hvc.endsLe (k := 0) x.start.toNat
    have Hv := Lib.hid hv
    have Hvc := Lib.hid hvc
    obtain ⟨NS, hNS⟩ : ∃ n : Nat, n = x.S := ⟨_, rfl⟩
    have hs2 : x.start < (NS : Int) := by rw [hNS]; show x.start < (x.states.toNat : Int); omega
    have HNS := Lib.hid hNS
    clear hv hvc hNS
    simp only [Chn.n] at hnat
    go_enter Try.func56, Try.ntmps56
    go_wp2_with fail
    refine (implValidChain (Rd.below RdC.ok Hr.out (hbx.out.mono hB)) (by rw [hsz.out]; omega) hn _ Hv.out).mono ?_
    rintro e w1 ⟨rfl, hb⟩
    have hs1 : w.heap.size < w1.heap.size := by have := hb.size; rw [hsz.out] at this; omega
    have Hb1 := Lib.hid (Hbx.out.keep fun k hk => hb.block k (by rw [hsz.out]; omega))
    have Hb := Lib.hid (hbx.out.trans (hb.mono (by rw [hsz.out]; omega))); clear hb
    go_wp2_with fail
    refine (implEnds Hb1.out (show B ≤ w1.heap.size by omega) hs1 Hvc.out).mono ?_
    rintro e w2 ⟨ve, rfl, hf⟩
    obtain ⟨g, cg, gx, cx, rfl, hq1, hk1, hq2, hk2, hk3, hb2⟩ := ends_post Hb1.out hs1 Hvc.out hf HNS.out
    have hs12 := hb2.size
    have Hb2 := Lib.hid (Hb1.out.below hb2 (by omega) hs1)
    have Hbb := Lib.hid (Hb.out.trans (hb2.mono (by omega)))
    have He := Lib.hid (show RdII (· < w2.heap.size) w2 _ (endsG x) from hf.rd OII.leads OII.ok)
    clear hf hb2
    have hEE := Lib.hid (wrdB_at (R := R) (b := inB R 0 ((endsV x 0 x.start.toNat : Nat) - 1)) Hv.out rfl)
    have hlt := Lib.hid (fun (h : inB R 0 ((endsV x 0 x.start.toNat : Nat) - 1) = true) => show ∃ N : Nat, R = N ∧ N < endsV x 0 x.start.toNat by have := inB_true.1 h; exact ⟨R.toNat, by omega, by omega⟩)
    have hwr : IntKind.i64.wrap (((endsV x 0 x.start.toNat : Nat) : Int) - 1) = ((endsV x 0 x.start.toNat : Nat) : Int) - 1 := IntWalk.i64_in _ (by omega)
    cases hin : inB R 0 (((endsV x 0 x.start.toNat : Nat) : Int) - 1)
    · rw [hin] at hEE
      go_wp2
      go_quiet ((go_at_call 78; exact quiet_same (implIn _ _ _ _ (by first | assumption | (rw [hwr]; assumption)) _)))
      go_wp2
      go_ret2
      exact ⟨ret_sb (wrd_no hEE.out).symm hEE.out.symm, (Below.draws Hbb.out _)⟩
    · rw [hin] at hEE
      obtain ⟨N, rfl, hR1⟩ := hlt.out hin
      clear hlt
      have hok := Lib.hid (wordG_ok Hvc.out hR1)
      have HR1 := Lib.hid hR1; clear hR1
      go_wp2
      go_quiet ((go_at_call 78; exact quiet_same (implIn _ _ _ _ (by first | assumption | (rw [hwr]; assumption)) _)))
      have Hb3 := Lib.hid (Hb2.out.draws nq)
      have He3 := Lib.hid (show RdII (· < (w2.drewN nq).heap.size) (w2.drewN nq) _ (endsG x) from rd_draws RdII.ok He.out nq)
      have Hbb3 := Lib.hid (Below.draws Hbb.out nq)
      have hs3 : w1.heap.size ≤ (w2.drewN nq).heap.size := hs12
      generalize w2.drewN nq = w3 at *
      clear hk1 hq2 hk2 hk3 hwr
      go_wp2_with fail
      refine (implWordAt Hb3.out (by omega) (by omega) Hvc.out He3.out hq1 _ HR1.out).mono ?_
      rintro e w4 ⟨vw, rfl, hf4⟩
      have hr4 := Lib.hid (hf4.rd OI.leads OI.ok)
      have Hbb4 := Lib.hid (Hbb3.out.trans (hf4.bel.mono (by omega)))
      have hs4 := hf4.bel.size
      clear hf4
      go_wp2_with fail
      refine (implWordOf hr4.out (fun k hk => hk) (by rw [hok.out.1]; show x.places.length ≤ _; omega) hok.out.2).mono ?_
      rintro e w5 ⟨rfl, hb5⟩
      have Hbb5 := Lib.hid (Hbb4.out.trans (hb5.mono (by omega)))
      go_wp2
      go_ret2
      exact ⟨ret_sb (by rw [wrd_yes hEE.out]; rfl) hEE.out.symm, Hbb5.out⟩

end Go.Proofs.Ytnpkanlieflbiaa
