/- ProductTable. -/
import Derived.Test.YtakliggacjckpaaB3
import Derived.Test.YtakliggacjckpaaB4
namespace Go.Proofs.Ytakliggacjckpaa
open Go.RowKit
set_option linter.unusedVariables false

def proF (s t : List (List Int)) (i k : Nat) : Int := nth (nth s (i / t.length)) (k / t.length) * t.length + nth (nth t (i % t.length)) (k % t.length)
def proOk (s t : List (List Int)) : Bool := isQ s && (isQ t && decide (s.length * t.length ≤ 36))
def proT (s t : List (List Int)) : List (List Int) := tab (s.length * t.length) (proF s t)
def proV (s t : List (List Int)) : List (List Int) := if proOk s t then proT s t else []
theorem proV_no {s t : List (List Int)} (h : proOk s t = false) : proV s t = [] := by simp [proV, h]
theorem proV_yes {s t : List (List Int)} (h : proOk s t = true) : proV s t = proT s t := by simp [proV, h]
theorem proV_cnt (s t : List (List Int)) : cntL List.length (proV s t) ≤ 1296 := by
  unfold proV
  split
  · rename_i h
    simp only [proOk, Bool.and_eq_true, decide_eq_true_eq] at h
    exact sq_cnt (tab_sq _ _) h.2.2
  · simp [cntL]

theorem div_lt_of {i m n : Nat} (hm : 0 < m) (h : i < n * m) : i / m < n := (Nat.div_lt_iff_lt_mul hm).2 h
theorem pro_mul {z : Int} {n m : Nat} (h0 : 0 ≤ z) (h1 : z < n) (hm : m ≤ 36) (hn : n ≤ 36) : 0 ≤ z * m ∧ z * m ≤ 1296 := by
  refine ⟨Int.mul_nonneg h0 (by omega), ?_⟩
  have h4 : z * (m : Int) ≤ 36 * 36 := Int.mul_le_mul (by omega) (by omega) (by omega) (by omega)
  omega

theorem implPro1 {P : Nat → Prop} {s t : List (List Int)} {ads adt : Option Addr} {cs ct ks km kt : Nat} {w : World} (hs : RdII P w (.slice ads s.length cs) s) (ht : RdII P w (.slice adt t.length ct) t) (hqs : isQ s = true) (hqt : isQ t = true)
    {i k : Nat} (hi : i < s.length * t.length) (hk : k < s.length * t.length)
    (h1 : w.cell? ⟨ks, 0, none⟩ = some (.slice ads s.length cs)) (h2 : w.cell? ⟨km, 0, none⟩ = some (.int .i64 t.length)) (h3 : w.cell? ⟨kt, 0, none⟩ = some (.slice adt t.length ct)) :
    Calls Try.prog 64 #[.int .i64 i, .int .i64 k, .pointer (some ⟨ks, 0, none⟩), .pointer (some ⟨km, 0, none⟩), .pointer (some ⟨kt, 0, none⟩)] w fun e w' => e = .returned (.int .i64 (proF s t i k)) ∧ ∃ m, w.drewN m = w' := by
  have hls := isQ_len hqs
  have hlt := isQ_len hqt
  have i1 := div_lt_of (by omega) hi
  have k1 := div_lt_of (by omega) hk
  have i2 := Nat.mod_lt i (show 0 < t.length by omega)
  have k2 := Nat.mod_lt k (show 0 < t.length by omega)
  have hbs := isQ_bd hqs i1 k1
  have hbt := isQ_bd hqt i2 k2
  have hm := pro_mul hbs.1 hbs.2 hlt.2 hls.2
  have hrs := isQ_rowLen hqs i1
  have hrt := isQ_rowLen hqt i2
  have hF : proF s t i k = nth (nth s (i / t.length)) (k / t.length) * t.length + nth (nth t (i % t.length)) (k % t.length) := rfl
  obtain ⟨b, o, b1, o1, c1, rfl, _, _, hc1, hc2, g1, g2⟩ := hs.cell i1 (y := k / t.length) (by rw [hrs]; exact k1)
  obtain ⟨b', o', b3, o3, c3, rfl, _, _, hc3, hc4, g3, g4⟩ := ht.cell i2 (y := k % t.length) (by rw [hrt]; exact k2)
  rw [hrs] at hc1 g1
  rw [hrt] at hc3 g3
  unfold maxLen at g2 g4
  have hne : (t.length : Int) ≠ 0 := by omega
  have hpos : 1 ≤ (t.length : Int) := by omega
  have hst : s.length * t.length ≤ 1296 := by have := Nat.mul_le_mul hls.2 hlt.2; omega
  have hi9 : (i : Int) ≤ 1296 := by omega
  have hk9 : (k : Int) ≤ 1296 := by omega
  have j1 : ((i / t.length : Nat) : Int) < s.length := by omega
  have j2 : ((k / t.length : Nat) : Int) < s.length := by omega
  have j3 : ((i % t.length : Nat) : Int) < t.length := by omega
  have j4 : ((k % t.length : Nat) : Int) < t.length := by omega
  have e1 : (i : Int) / t.length = ((i / t.length : Nat) : Int) := by rw [Int.natCast_ediv]
  have e2 : (k : Int) / t.length = ((k / t.length : Nat) : Int) := by rw [Int.natCast_ediv]
  have e3 : (i : Int) % t.length = ((i % t.length : Nat) : Int) := by rw [Int.natCast_emod]
  have e4 : (k : Int) % t.length = ((k % t.length : Nat) : Int) := by rw [Int.natCast_emod]
  have hF' := Lib.hid hF
  clear hF hs ht hqs hqt hrs hrt
  generalize nth (nth s (i / t.length)) (k / t.length) = z1 at *
  generalize nth (nth t (i % t.length)) (k % t.length) = z2 at *
  generalize i / t.length = I1 at *
  generalize k / t.length = K1 at *
  generalize i % t.length = I2 at *
  generalize k % t.length = K2 at *
  go_enter Try.func64, Try.ntmps64
  go_wp2
  go_quiet (fail)
  go_wp2
  go_ret
  exact ⟨ret_int' hF'.out.symm, _, rfl⟩
-- walks
set_option maxRecDepth 10000 in
set_option maxHeartbeats 1000000 in
theorem implProductTable {B : Nat} {vs vt : Value} {s t : List (List Int)} {w : World} (hs : RdII (· < B) w vs s) (ht : RdII (· < B) w vt t) (hB : B ≤ w.heap.size) (hn1 : s.length ≤ 1048576) (hn2 : t.length ≤ 1048576) :
    Calls Try.prog 36 #[vs, vt] w fun e w' => ∃ v, e = .returned (.tuple #[v, .bool (proOk s t)]) ∧ Fresh OII w w' v (proV s t) := by
  have Hs := Lib.hid hs
  have Ht := Lib.hid ht
  obtain ⟨as1, cs, rfl, h1, h2⟩ := hs.isSlice
  obtain ⟨at1, ct, rfl, h3, h4⟩ := ht.isSlice
  unfold maxLen at h2 h4
  clear hs ht
  cases qs : isQ s
  · have hr := Lib.hid (show proOk s t = false by simp [proOk, qs])
    go_enter Try.func36, Try.ntmps36
    have Hbw := Lib.hid (show Below w.heap.size w ((w.alloc (.cells #[.slice as1 s.length cs] 25)).alloc (.cells #[.slice at1 t.length ct] 25)) from ((Below.refl _ _).alloc (Nat.le_refl _) _).alloc (by simp) _)
    have hx1 := box_past ((w.alloc (.cells #[.slice as1 s.length cs] 25))) (.cells #[.slice at1 t.length ct] 25) (box_at w (.slice as1 s.length cs) 25) (by simp)
    have hx2 := box_at (w.alloc (.cells #[.slice as1 s.length cs] 25)) (.slice at1 t.length ct) 25
    have hsz : ((w.alloc (.cells #[.slice as1 s.length cs] 25)).alloc (.cells #[.slice at1 t.length ct] 25)).heap.size = w.heap.size + 2 := by simp
    rw [alloc_size] at hx2
    go_wp2_with fail
    refine (implIsQuasigroup (Rd.below RdII.ok Hs.out (Hbw.out.mono hB)) (Nat.le_trans hB Hbw.out.size)).mono ?_
    rw [qs]
    rintro e w1 ⟨rfl, b0⟩
    have C0 := Lib.hid b0
    have B0 := Lib.hid (Hbw.out.trans (b0.mono Hbw.out.size)); clear b0
    have p1 := (C0.out.cell (p := ⟨w.heap.size, 0, none⟩) (by rw [hsz]; show w.heap.size < _; omega)).trans hx1
    have p2 := (C0.out.cell (p := ⟨w.heap.size + 1, 0, none⟩) (by rw [hsz]; show w.heap.size + 1 < _; omega)).trans hx2
    go_wp2_with fail
    go_ret2
    exact ⟨_, by rw [hr.out]; rfl, by rw [proV_no hr.out]; exact Fresh.nil B0.out⟩
  have Hqs := Lib.hid qs
  have ls := isQ_len qs
  clear qs
  cases qt : isQ t
  · have hr := Lib.hid (show proOk s t = false by simp [proOk, qt])
    go_enter Try.func36, Try.ntmps36
    have Hbw := Lib.hid (show Below w.heap.size w ((w.alloc (.cells #[.slice as1 s.length cs] 25)).alloc (.cells #[.slice at1 t.length ct] 25)) from ((Below.refl _ _).alloc (Nat.le_refl _) _).alloc (by simp) _)
    have hx1 := box_past ((w.alloc (.cells #[.slice as1 s.length cs] 25))) (.cells #[.slice at1 t.length ct] 25) (box_at w (.slice as1 s.length cs) 25) (by simp)
    have hx2 := box_at (w.alloc (.cells #[.slice as1 s.length cs] 25)) (.slice at1 t.length ct) 25
    have hsz : ((w.alloc (.cells #[.slice as1 s.length cs] 25)).alloc (.cells #[.slice at1 t.length ct] 25)).heap.size = w.heap.size + 2 := by simp
    rw [alloc_size] at hx2
    go_wp2_with fail
    refine (implIsQuasigroup (Rd.below RdII.ok Hs.out (Hbw.out.mono hB)) (Nat.le_trans hB Hbw.out.size)).mono ?_
    rw [Hqs.out]
    rintro e w1 ⟨rfl, b0⟩
    have C0 := Lib.hid b0
    have B0 := Lib.hid (Hbw.out.trans (b0.mono Hbw.out.size)); clear b0
    have p1 := (C0.out.cell (p := ⟨w.heap.size, 0, none⟩) (by rw [hsz]; show w.heap.size < _; omega)).trans hx1
    have p2 := (C0.out.cell (p := ⟨w.heap.size + 1, 0, none⟩) (by rw [hsz]; show w.heap.size + 1 < _; omega)).trans hx2
    go_wp2_with fail
    refine (implIsQuasigroup (Rd.below RdII.ok Ht.out (B0.out.mono hB)) (Nat.le_trans hB B0.out.size)).mono ?_
    rw [qt]
    rintro e w2 ⟨rfl, b0⟩
    have C1 := Lib.hid b0
    have B1 := Lib.hid (B0.out.trans (b0.mono B0.out.size)); clear b0
    go_wp2_with fail
    go_ret2
    exact ⟨_, by rw [hr.out]; rfl, by rw [proV_no hr.out]; exact Fresh.nil B1.out⟩
  have Hqt := Lib.hid qt
  have lt := isQ_len qt
  clear qt
  have hst : s.length * t.length ≤ 1296 := by have := Nat.mul_le_mul ls.2 lt.2; omega
  have hst0 : 1 ≤ s.length * t.length := Nat.mul_le_mul ls.1 lt.1
  have hst2 : (s.length : Int) * t.length = ((s.length * t.length : Nat) : Int) := by rw [Int.natCast_mul]
  by_cases hle : s.length * t.length ≤ 36
  rotate_left
  · have hr := Lib.hid (show proOk s t = false by simp [proOk, hle])
    generalize s.length * t.length = N at *
    go_enter Try.func36, Try.ntmps36
    have Hbw := Lib.hid (show Below w.heap.size w ((w.alloc (.cells #[.slice as1 s.length cs] 25)).alloc (.cells #[.slice at1 t.length ct] 25)) from ((Below.refl _ _).alloc (Nat.le_refl _) _).alloc (by simp) _)
    have hx1 := box_past ((w.alloc (.cells #[.slice as1 s.length cs] 25))) (.cells #[.slice at1 t.length ct] 25) (box_at w (.slice as1 s.length cs) 25) (by simp)
    have hx2 := box_at (w.alloc (.cells #[.slice as1 s.length cs] 25)) (.slice at1 t.length ct) 25
    have hsz : ((w.alloc (.cells #[.slice as1 s.length cs] 25)).alloc (.cells #[.slice at1 t.length ct] 25)).heap.size = w.heap.size + 2 := by simp
    rw [alloc_size] at hx2
    go_wp2_with fail
    refine (implIsQuasigroup (Rd.below RdII.ok Hs.out (Hbw.out.mono hB)) (Nat.le_trans hB Hbw.out.size)).mono ?_
    rw [Hqs.out]
    rintro e w1 ⟨rfl, b0⟩
    have C0 := Lib.hid b0
    have B0 := Lib.hid (Hbw.out.trans (b0.mono Hbw.out.size)); clear b0
    have p1 := (C0.out.cell (p := ⟨w.heap.size, 0, none⟩) (by rw [hsz]; show w.heap.size < _; omega)).trans hx1
    have p2 := (C0.out.cell (p := ⟨w.heap.size + 1, 0, none⟩) (by rw [hsz]; show w.heap.size + 1 < _; omega)).trans hx2
    go_wp2_with fail
    refine (implIsQuasigroup (Rd.below RdII.ok Ht.out (B0.out.mono hB)) (Nat.le_trans hB B0.out.size)).mono ?_
    rw [Hqt.out]
    rintro e w2 ⟨rfl, b0⟩
    have C1 := Lib.hid b0
    have B1 := Lib.hid (B0.out.trans (b0.mono B0.out.size)); clear b0
    have hbb := Lib.hid ((C0.out.trans (C1.out.mono C0.out.size)))
    have hx1' := (hbb.out.cell (p := ⟨w.heap.size, 0, none⟩) (by rw [hsz]; show w.heap.size < _; omega)).trans hx1
    have hx2' := (hbb.out.cell (p := ⟨w.heap.size + 1, 0, none⟩) (by rw [hsz]; show w.heap.size + 1 < _; omega)).trans hx2
    go_wp2_with fail
    go_ret2
    exact ⟨_, by rw [hr.out]; rfl, by rw [proV_no hr.out]; exact Fresh.nil B1.out⟩
  have hr := Lib.hid (show proOk s t = true by simp [proOk, hle, Hqs.out, Hqt.out])
  have hv := Lib.hid (proV_yes hr.out)
  have hmf : ∀ (fn : Fn) (first cap : Array Value) (w : World), (Instr.makeFunc fn first cap).run Try.prog w = .ok (.func fn first cap) w := fun _ _ _ _ => rfl
  go_enter Try.func36, Try.ntmps36
  have Hbw := Lib.hid (show Below w.heap.size w ((w.alloc (.cells #[.slice as1 s.length cs] 25)).alloc (.cells #[.slice at1 t.length ct] 25)) from ((Below.refl _ _).alloc (Nat.le_refl _) _).alloc (by simp) _)
  have hx1 := box_past ((w.alloc (.cells #[.slice as1 s.length cs] 25))) (.cells #[.slice at1 t.length ct] 25) (box_at w (.slice as1 s.length cs) 25) (by simp)
  have hx2 := box_at (w.alloc (.cells #[.slice as1 s.length cs] 25)) (.slice at1 t.length ct) 25
  have hsz : ((w.alloc (.cells #[.slice as1 s.length cs] 25)).alloc (.cells #[.slice at1 t.length ct] 25)).heap.size = w.heap.size + 2 := by simp
  rw [alloc_size] at hx2
  go_wp2_with fail
  refine (implIsQuasigroup (Rd.below RdII.ok Hs.out (Hbw.out.mono hB)) (Nat.le_trans hB Hbw.out.size)).mono ?_
  rw [Hqs.out]
  rintro e w1 ⟨rfl, b0⟩
  have C0 := Lib.hid b0
  have B0 := Lib.hid (Hbw.out.trans (b0.mono Hbw.out.size)); clear b0
  have p1 := (C0.out.cell (p := ⟨w.heap.size, 0, none⟩) (by rw [hsz]; show w.heap.size < _; omega)).trans hx1
  have p2 := (C0.out.cell (p := ⟨w.heap.size + 1, 0, none⟩) (by rw [hsz]; show w.heap.size + 1 < _; omega)).trans hx2
  go_wp2_with fail
  refine (implIsQuasigroup (Rd.below RdII.ok Ht.out (B0.out.mono hB)) (Nat.le_trans hB B0.out.size)).mono ?_
  rw [Hqt.out]
  rintro e w2 ⟨rfl, b0⟩
  have C1 := Lib.hid b0
  have B1 := Lib.hid (B0.out.trans (b0.mono B0.out.size)); clear b0
  have hbb := Lib.hid ((C0.out.trans (C1.out.mono C0.out.size)))
  have hx1' := (hbb.out.cell (p := ⟨w.heap.size, 0, none⟩) (by rw [hsz]; show w.heap.size < _; omega)).trans hx1
  have hx2' := (hbb.out.cell (p := ⟨w.heap.size + 1, 0, none⟩) (by rw [hsz]; show w.heap.size + 1 < _; omega)).trans hx2
  have hcl := Lib.hid (show ∀ i k : Nat, i < s.length * t.length → k < s.length * t.length → ∀ w', Below (w2.alloc (.cells #[.int .i64 t.length] 2)).heap.size (w2.alloc (.cells #[.int .i64 t.length] 2)) w' →
      Calls Try.prog 64 (#[.int .i64 i, .int .i64 k] ++ #[.pointer (some ⟨w.heap.size, 0, none⟩), .pointer (some ⟨w2.heap.size, 0, none⟩), .pointer (some ⟨w.heap.size + 1, 0, none⟩)]) w' fun e w'' => e = .returned (.int .i64 (proF s t i k)) ∧ ∃ m, w'.drewN m = w'' from
    fun i k hi hk w' hw' => by
      have hsz2 := hbb.out.size
      rw [hsz] at hsz2
      have hw3 : Below w2.heap.size w2 (w2.alloc (.cells #[.int .i64 t.length] 2)) := (Below.refl _ _).alloc (Nat.le_refl _) _
      have hw4 := hw3.trans (hw'.mono hw3.size)
      have hw5 := hbb.out.trans (hw4.mono hbb.out.size)
      have hw6 := B1.out.trans (hw4.mono B1.out.size)
      refine implPro1 (Rd.below RdII.ok Hs.out (hw6.mono hB)) (Rd.below RdII.ok Ht.out (hw6.mono hB)) Hqs.out Hqt.out hi hk ((hw5.cell (by rw [hsz]; show w.heap.size < _; omega)).trans hx1) ((hw'.cell (by simp)).trans (box_at _ _ _)) ((hw5.cell (by rw [hsz]; show w.heap.size + 1 < _; omega)).trans hx2))
  have hsz3 := hbb.out.size
  rw [hsz] at hsz3
  have hb3 := Lib.hid (show Below w.heap.size w (w2.alloc (.cells #[.int .i64 t.length] 2)) from B1.out.alloc B1.out.size _)
  have hx1'' := box_past w2 (.cells #[.int .i64 t.length] 2) hx1' (by omega)
  have hx2'' := box_past w2 (.cells #[.int .i64 t.length] 2) hx2' (by omega)
  clear hx1 hx2
  have hfn := Lib.hid (fun v => implMade (s.length * t.length) hst0 hle v 64 #[.pointer (some ⟨w.heap.size, 0, none⟩), .pointer (some ⟨w2.heap.size, 0, none⟩), .pointer (some ⟨w.heap.size + 1, 0, none⟩)] (proF s t))
  generalize hN : s.length * t.length = N at *
  go_wp2_with fail
  refine (hfn.out _ hcl.out (fun _ _ => by kernel_rfl)).mono ?_
  rintro e w5 ⟨v5, rfl, hf⟩
  have hf2 := hf.back hb3.out
  go_wp2_with fail
  go_ret2
  exact ⟨_, by rw [hr.out]; rfl, by rw [hv.out, proT, hN]; exact hf2⟩

set_option maxRecDepth 10000 in
set_option maxHeartbeats 1000000 in
theorem specProductTable {B : Nat} {vs vt : Value} {s t : List (List Int)} {w : World} (hs : RdII (· < B) w vs s) (ht : RdII (· < B) w vt t) (hB : B ≤ w.heap.size) (hn1 : s.length ≤ 1048576) (hn2 : t.length ≤ 1048576) :
    Calls Try.prog 35 #[vs, vt] w fun e w' => ∃ v, e = .returned (.tuple #[v, .bool (proOk s t)]) ∧ Fresh OII w w' v (proV s t) := by
  have Hs := Lib.hid hs
  have Ht := Lib.hid ht
  obtain ⟨as1, cs, rfl, h1, h2⟩ := hs.isSlice
  obtain ⟨at1, ct, rfl, h3, h4⟩ := ht.isSlice
  unfold maxLen at h2 h4
  clear hs ht
  cases qs : isQ s
  · have hr := Lib.hid (show proOk s t = false by simp [proOk, qs])
    go_enter Try.func35, Try.ntmps35
    have Hbw := Lib.hid (Below.refl w.heap.size w)
    go_wp2_with fail
    refine (specL04Is (Rd.below RdII.ok Hs.out (Hbw.out.mono hB)) (Nat.le_trans hB Hbw.out.size)).mono ?_
    rw [qs]
    rintro e w1 ⟨rfl, b0⟩
    have C0 := Lib.hid b0
    have B0 := Lib.hid (Hbw.out.trans (b0.mono Hbw.out.size)); clear b0
    go_wp2_with fail
    go_ret2
    exact ⟨_, by rw [hr.out]; rfl, by rw [proV_no hr.out]; exact Fresh.nil B0.out⟩
  have Hqs := Lib.hid qs
  have ls := isQ_len qs
  clear qs
  cases qt : isQ t
  · have hr := Lib.hid (show proOk s t = false by simp [proOk, qt])
    go_enter Try.func35, Try.ntmps35
    have Hbw := Lib.hid (Below.refl w.heap.size w)
    go_wp2_with fail
    refine (specL04Is (Rd.below RdII.ok Hs.out (Hbw.out.mono hB)) (Nat.le_trans hB Hbw.out.size)).mono ?_
    rw [Hqs.out]
    rintro e w1 ⟨rfl, b0⟩
    have C0 := Lib.hid b0
    have B0 := Lib.hid (Hbw.out.trans (b0.mono Hbw.out.size)); clear b0
    go_wp2_with fail
    refine (specL04Is (Rd.below RdII.ok Ht.out (B0.out.mono hB)) (Nat.le_trans hB B0.out.size)).mono ?_
    rw [qt]
    rintro e w2 ⟨rfl, b0⟩
    have C1 := Lib.hid b0
    have B1 := Lib.hid (B0.out.trans (b0.mono B0.out.size)); clear b0
    go_wp2_with fail
    go_ret2
    exact ⟨_, by rw [hr.out]; rfl, by rw [proV_no hr.out]; exact Fresh.nil B1.out⟩
  have Hqt := Lib.hid qt
  have lt := isQ_len qt
  clear qt
  have hst : s.length * t.length ≤ 1296 := by have := Nat.mul_le_mul ls.2 lt.2; omega
  have hst0 : 1 ≤ s.length * t.length := Nat.mul_le_mul ls.1 lt.1
  have hst2 : (s.length : Int) * t.length = ((s.length * t.length : Nat) : Int) := by rw [Int.natCast_mul]
  by_cases hle : s.length * t.length ≤ 36
  rotate_left
  · have hr := Lib.hid (show proOk s t = false by simp [proOk, hle])
    generalize s.length * t.length = N at *
    go_enter Try.func35, Try.ntmps35
    have Hbw := Lib.hid (Below.refl w.heap.size w)
    go_wp2_with fail
    refine (specL04Is (Rd.below RdII.ok Hs.out (Hbw.out.mono hB)) (Nat.le_trans hB Hbw.out.size)).mono ?_
    rw [Hqs.out]
    rintro e w1 ⟨rfl, b0⟩
    have C0 := Lib.hid b0
    have B0 := Lib.hid (Hbw.out.trans (b0.mono Hbw.out.size)); clear b0
    go_wp2_with fail
    refine (specL04Is (Rd.below RdII.ok Ht.out (B0.out.mono hB)) (Nat.le_trans hB B0.out.size)).mono ?_
    rw [Hqt.out]
    rintro e w2 ⟨rfl, b0⟩
    have C1 := Lib.hid b0
    have B1 := Lib.hid (B0.out.trans (b0.mono B0.out.size)); clear b0
    go_wp2_with fail
    go_ret2
    exact ⟨_, by rw [hr.out]; rfl, by rw [proV_no hr.out]; exact Fresh.nil B1.out⟩
  have hr := Lib.hid (show proOk s t = true by simp [proOk, hle, Hqs.out, Hqt.out])
  have hv := Lib.hid (proV_yes hr.out)
  go_enter Try.func35, Try.ntmps35
  have Hbw := Lib.hid (Below.refl w.heap.size w)
  go_wp2_with fail
  refine (specL04Is (Rd.below RdII.ok Hs.out (Hbw.out.mono hB)) (Nat.le_trans hB Hbw.out.size)).mono ?_
  rw [Hqs.out]
  rintro e w1 ⟨rfl, b0⟩
  have C0 := Lib.hid b0
  have B0 := Lib.hid (Hbw.out.trans (b0.mono Hbw.out.size)); clear b0
  go_wp2_with fail
  refine (specL04Is (Rd.below RdII.ok Ht.out (B0.out.mono hB)) (Nat.le_trans hB B0.out.size)).mono ?_
  rw [Hqt.out]
  rintro e w2 ⟨rfl, b0⟩
  have C1 := Lib.hid b0
  have B1 := Lib.hid (B0.out.trans (b0.mono B0.out.size)); clear b0
  have hpos : 1 ≤ (t.length : Int) := by omega
  have hne : (t.length : Int) ≠ 0 := by omega
  have hT := Lib.hid (show proT s t = tab (s.length * t.length) (proF s t) from rfl)
  have hdv := Lib.hid (fun i (hi : i < s.length * t.length) => div_lt_of (show 0 < t.length by omega) hi)
  generalize hN : s.length * t.length = N at *
  go_wp2_with fail
  refine (specBlank N hle _).mono ?_
  rintro e w3 ⟨v1, rfl, hf0⟩
  have hf := hf0.back B1.out
  clear hf0
  obtain ⟨gt, gc, rfl⟩ := hf.shape (by simp [zeros]; omega)
  have hl3 := hf.len2
  rw [show (zeros N).length = N by simp [zeros]] at *
  have Hf := Lib.hid hf
  clear hf
  unfold maxLen at hl3
  go_wp2_with fail
  go_loopw [8] (fun i wr => ∃ k : Nat, k ≤ N ∧ i = .int .i64 k ∧ ∃ z, Hid (Filled N (proF s t) k 0 z) ∧ Hid (Fresh OII w wr (.slice (some ⟨gt, 0, none⟩) N gc) z)) (fun i _ => N - (intOf i).toNat)
  case atStart => exact ⟨0, Nat.zero_le _, rfl, _, Lib.hid (Filled.start N _ (zeros_sq N)), Hf⟩
  case round =>
    obtain ⟨x, hk, rfl, z, hz, hf⟩ := hrel
    by_cases hlt : x < N
    · go_wp2
      go_loopw [9] (fun i wr => ∃ k : Nat, k ≤ N ∧ i = .int .i64 k ∧ ∃ z, Hid (Filled N (proF s t) x k z) ∧ Hid (Fresh OII w wr (.slice (some ⟨gt, 0, none⟩) N gc) z)) (fun i _ => N - (intOf i).toNat)
      case atStart => exact ⟨0, Nat.zero_le _, rfl, _, hz, hf⟩
      case round =>
        obtain ⟨y, hky, rfl, z, hz, hf⟩ := hrel
        by_cases hlty : y < N
        · obtain ⟨gx, cx, hcl, g3, g4, hc2, hfz, hge, hput⟩ := hf.out.put2 (x := x) (y := y) (by rw [hz.out.1.1]; exact hlt) (by rw [hz.out.1.2 x hlt]; exact hlty)
          rw [hz.out.1.2 x hlt] at hcl g3
          unfold maxLen at g4
          have Hput := Lib.hid hput
          clear hput
          have i1 := hdv.out x hlt
          have k1 := hdv.out y hlty
          have i2 := Nat.mod_lt x (show 0 < t.length by omega)
          have k2 := Nat.mod_lt y (show 0 < t.length by omega)
          have hbs := isQ_bd Hqs.out i1 k1
          have hbt := isQ_bd Hqt.out i2 k2
          have hm := pro_mul hbs.1 hbs.2 lt.2 ls.2
          have hrs := isQ_rowLen Hqs.out i1
          have hrt := isQ_rowLen Hqt.out i2
          have hF : nth (nth s (x / t.length)) (y / t.length) * t.length + nth (nth t (x % t.length)) (y % t.length) = proF s t x y := rfl
          obtain ⟨bs, os_, b1, o1, c1, rfl, _, _, hc5, hc6, g5, g6⟩ := (Rd.below RdII.ok Hs.out (hf.out.bel.mono hB)).cell i1 (y := y / t.length) (by rw [hrs]; exact k1)
          obtain ⟨bt, ot, b3, o3, c3, rfl, _, _, hc7, hc8, g7, g8⟩ := (Rd.below RdII.ok Ht.out (hf.out.bel.mono hB)).cell i2 (y := y % t.length) (by rw [hrt]; exact k2)
          rw [hrs] at hc5 g5
          rw [hrt] at hc7 g7
          unfold maxLen at g6 g8
          have j1 : ((x / t.length : Nat) : Int) < s.length := by omega
          have j2 : ((y / t.length : Nat) : Int) < s.length := by omega
          have j3 : ((x % t.length : Nat) : Int) < t.length := by omega
          have j4 : ((y % t.length : Nat) : Int) < t.length := by omega
          have e1 : (x : Int) / t.length = ((x / t.length : Nat) : Int) := by rw [Int.natCast_ediv]
          have e2 : (y : Int) / t.length = ((y / t.length : Nat) : Int) := by rw [Int.natCast_ediv]
          have e3 : (x : Int) % t.length = ((x % t.length : Nat) : Int) := by rw [Int.natCast_emod]
          have e4 : (y : Int) % t.length = ((y % t.length : Nat) : Int) := by rw [Int.natCast_emod]
          have hF' := Lib.hid hF
          clear hF hrs hrt
          generalize nth (nth s (x / t.length)) (y / t.length) = z1 at *
          generalize nth (nth t (x % t.length)) (y % t.length) = z2 at *
          generalize x / t.length = I1 at *
          generalize y / t.length = K1 at *
          generalize x % t.length = I2 at *
          generalize y % t.length = K2 at *
          have htn : ¬ t = [] := by intro e; subst e; simp at hpos
          have w1 : IntKind.i64.wrap (I1 : Int) = I1 := IntWalk.i64_in _ (by omega)
          have w2 : IntKind.i64.wrap (K1 : Int) = K1 := IntWalk.i64_in _ (by omega)
          have w3 : IntKind.i64.wrap (z1 * (t.length : Int)) = z1 * t.length := IntWalk.i64_in _ (by omega)
          have w4 : IntKind.i64.wrap (z1 * (t.length : Int) + z2) = z1 * t.length + z2 := IntWalk.i64_in _ (by omega)
          have w5 : (x : Int).tmod t.length = I2 := by rw [Int.tmod_eq_emod_of_nonneg (by omega)]; exact e3
          have w6 : (y : Int).tmod t.length = K2 := by rw [Int.tmod_eq_emod_of_nonneg (by omega)]; exact e4
          have w7 : IntKind.i64.wrap (I2 : Int) = I2 := IntWalk.i64_in _ (by omega)
          have w8 : IntKind.i64.wrap (K2 : Int) = K2 := IntWalk.i64_in _ (by omega)
          go_wp2
          go_still_tail 31, (by kernel_rfl)
          change wpList _ _ _ _ _ wr.drew
          generalize hwd : wr.drew = W2
          have hfz2 : W2.frozen? ⟨gx, y, none⟩ = false := by rw [← hwd]; exact hfz
          have hc22 : W2.cell? ⟨gx, y, none⟩ = some (.int .i64 (nth (nth z x) y)) := by rw [← hwd]; exact hc2
          have Hwd := Lib.hid hwd
          clear hwd
          go_wp2
          go_roundw
          case rel => exact ⟨y + 1, by omega, by go_num, _, Lib.hid (hz.out.more hlt hlty hF'.out), Lib.hid (by rw [← Hwd.out]; exact Hput.out _ ((Below.refl _ _).drew) _)⟩
          case measure => simp [intOf]; omega
        · obtain rfl : y = N := by omega
          have ht2 := Lib.hid hz.out.next
          go_wp2
          go_roundw
          case rel => exact ⟨x + 1, by omega, by go_num, z, ht2, hf⟩
          case measure => simp [intOf]; omega
    · obtain rfl : x = N := by omega
      have e := hz.out.whole
      subst e
      go_wp2
      go_ret2
      exact ⟨_, by rw [hr.out]; rfl, by rw [hv.out, hT.out]; exact hf.out⟩

end Go.Proofs.Ytakliggacjckpaa
