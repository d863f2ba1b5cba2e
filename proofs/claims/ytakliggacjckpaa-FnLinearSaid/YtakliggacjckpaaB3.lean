/- LinearTable. -/
import Derived.Test.YtakliggacjckpaaB2
namespace Go.Proofs.Ytakliggacjckpaa
open Go.RowKit
set_option linter.unusedVariables false

def linOk (n a b c : Int) : Bool := inB n 1 36 && (inB a 0 (n - 1) && (inB b 0 (n - 1) && inB c 0 (n - 1)))
def linF (n a b c : Int) (x y : Nat) : Int := (a * x + b * y + c) % n
def linT (n a b c : Int) : List (List Int) := tab n.toNat (linF n a b c)
def linR (n a b c : Int) : Bool := linOk n a b c && isQ (linT n a b c)
def linV (n a b c : Int) : List (List Int) := if linR n a b c then linT n a b c else []
theorem linR_no {n a b c : Int} (h : linOk n a b c = false) : linR n a b c = false := by simp [linR, h]
theorem linR_q {n a b c : Int} (h : isQ (linT n a b c) = false) : linR n a b c = false := by simp [linR, h]
theorem linR_yes {n a b c : Int} (h : linOk n a b c = true) (h2 : isQ (linT n a b c) = true) : linR n a b c = true := by simp [linR, h, h2]
theorem linV_no {n a b c : Int} (h : linR n a b c = false) : linV n a b c = [] := by simp [linV, h]
theorem linV_yes {n a b c : Int} (h : linR n a b c = true) : linV n a b c = linT n a b c := by simp [linV, h]
theorem linV_cnt (n a b c : Int) : cntL List.length (linV n a b c) ≤ 1296 := by
  unfold linV
  split
  · rename_i h
    simp only [linR, linOk, Bool.and_eq_true] at h
    have hn := inB_true.1 h.1.1
    have hs := tab_sq n.toNat (linF n a b c)
    have : cntL List.length (linT n a b c) ≤ (linT n a b c).length * 36 := by
      have h36 : ∀ x ∈ linT n a b c, x.length ≤ 36 := by
        intro x hx
        obtain ⟨i, hi, rfl⟩ := List.mem_iff_getElem.1 hx
        rw [← nth_eq hi]
        have := hs.2 i (by rw [← hs.1]; exact hi)
        unfold linT; omega
      clear hs h hn
      generalize linT n a b c = t at *
      induction t with
      | nil => simp [cntL]
      | cons x t ih =>
        have h1 := h36 x (by simp)
        have h2 := ih (fun y hy => h36 y (by simp [hy]))
        simp only [cntL, List.map_cons, List.sum_cons, List.length_cons] at h2 ⊢
        omega
    have hl : (linT n a b c).length = n.toNat := hs.1
    rw [hl] at this
    omega
  · simp [cntL]
theorem mulBd {a : Int} {n : Int} {x : Nat} (h1 : 0 ≤ a) (h2 : a ≤ n - 1) (hn : n ≤ 36) (hx : x < n.toNat) : 0 ≤ a * x ∧ a * x ≤ 1225 := by
  have h3 : (0 : Int) ≤ x := by omega
  refine ⟨Int.mul_nonneg h1 h3, ?_⟩
  have h4 : a * (x : Int) ≤ 35 * 35 := Int.mul_le_mul (by omega) (by omega) h3 (by omega)
  omega

theorem box_at (w : World) (v : Value) (E : TypeId) : (w.alloc (.cells #[v] E)).cell? ⟨w.heap.size, 0, none⟩ = some v := by simp
theorem box_past (w : World) (o : Obj) {k : Nat} {v : Value} (h : w.cell? ⟨k, 0, none⟩ = some v) (hk : k < w.heap.size) : (w.alloc o).cell? ⟨k, 0, none⟩ = some v := by
  rw [World.cell?_alloc_past _ _ _ hk]; exact h
theorem box4 (w : World) (p q r s : Value) (E : TypeId) :
    ((((w.alloc (.cells #[p] E)).alloc (.cells #[q] E)).alloc (.cells #[r] E)).alloc (.cells #[s] E)).cell? ⟨w.heap.size, 0, none⟩ = some p ∧
    ((((w.alloc (.cells #[p] E)).alloc (.cells #[q] E)).alloc (.cells #[r] E)).alloc (.cells #[s] E)).cell? ⟨w.heap.size + 1, 0, none⟩ = some q ∧
    ((((w.alloc (.cells #[p] E)).alloc (.cells #[q] E)).alloc (.cells #[r] E)).alloc (.cells #[s] E)).cell? ⟨w.heap.size + 1 + 1, 0, none⟩ = some r ∧
    ((((w.alloc (.cells #[p] E)).alloc (.cells #[q] E)).alloc (.cells #[r] E)).alloc (.cells #[s] E)).cell? ⟨w.heap.size + 1 + 1 + 1, 0, none⟩ = some s := by
  refine ⟨box_past _ _ (box_past _ _ (box_past _ _ (box_at _ _ _) ?_) ?_) ?_, box_past _ _ (box_past _ _ ?_ ?_) ?_, box_past _ _ ?_ ?_, ?_⟩
  · simp
  · simp; omega
  · simp; omega
  · have := box_at (w.alloc (.cells #[p] E)) q E; rwa [alloc_size] at this
  · simp
  · simp
  · have := box_at ((w.alloc (.cells #[p] E)).alloc (.cells #[q] E)) r E; rwa [alloc_size, alloc_size] at this
  · simp
  · have := box_at (((w.alloc (.cells #[p] E)).alloc (.cells #[q] E)).alloc (.cells #[r] E)) s E; rwa [alloc_size, alloc_size, alloc_size] at this

theorem implLinear1 {n a b c : Int} (h : linOk n a b c = true) {x y ka kb kc kn : Nat} (hx : x < n.toNat) (hy : y < n.toNat) {w : World}
    (ha : w.cell? ⟨ka, 0, none⟩ = some (.int .i64 a)) (hb : w.cell? ⟨kb, 0, none⟩ = some (.int .i64 b)) (hc : w.cell? ⟨kc, 0, none⟩ = some (.int .i64 c)) (hn : w.cell? ⟨kn, 0, none⟩ = some (.int .i64 n)) :
    Calls Try.prog 50 #[.int .i64 x, .int .i64 y, .pointer (some ⟨ka, 0, none⟩), .pointer (some ⟨kb, 0, none⟩), .pointer (some ⟨kc, 0, none⟩), .pointer (some ⟨kn, 0, none⟩)] w fun e w' => e = .returned (.int .i64 (linF n a b c x y)) ∧ ∃ m, w.drewN m = w' := by
  simp only [linOk, Bool.and_eq_true] at h
  have h1 := inB_true.1 h.1
  have h2 := inB_true.1 h.2.1
  have h3 := inB_true.1 h.2.2.1
  have h4 := inB_true.1 h.2.2.2
  have m1 := mulBd h2.1 h2.2 h1.2 hx
  have m2 := mulBd h3.1 h3.2 h1.2 hy
  clear h
  have hm := Int.emod_nonneg (a * x + b * y + c) (show n ≠ 0 by omega)
  have hm2 := Int.emod_lt_of_pos (a * x + b * y + c) (show 0 < n by omega)
  go_enter Try.func50, Try.ntmps50
  go_wp2
  go_ret
  exact ⟨rfl, 0, rfl⟩
set_option maxRecDepth 10000 in
theorem implLinearTable (n a b c : Int) (w : World) :
    Calls Try.prog 17 #[.int .i64 n, .int .i64 a, .int .i64 b, .int .i64 c] w fun e w' => ∃ v, e = .returned (.tuple #[v, .bool (linR n a b c)]) ∧ Fresh OII w w' v (linV n a b c) := by
  have hmf : ∀ (fn : Fn) (first cap : Array Value) (w : World), (Instr.makeFunc fn first cap).run Try.prog w = .ok (.func fn first cap) w := fun _ _ _ _ => rfl
  have hb4 : Below w.heap.size w ((((w.alloc (.cells #[.int .i64 n] 2)).alloc (.cells #[.int .i64 a] 2)).alloc (.cells #[.int .i64 b] 2)).alloc (.cells #[.int .i64 c] 2)) := ((((Below.refl _ _).alloc (Nat.le_refl _) _).alloc (by simp) _).alloc (by simp; omega) _).alloc (by simp; omega) _
  have Hb4 := Lib.hid hb4; clear hb4
  cases hn : inB n 1 36
  · have hr := Lib.hid (linR_no (show linOk n a b c = false by simp [linOk, hn]))
    go_enter Try.func17, Try.ntmps17
    go_wp2_with (go_at_call 48; refine (implIn _ _ _ _ (by assumption) _).mono ?_; rintro e w' ⟨rfl, rfl⟩)
    go_ret2
    exact ⟨_, by rw [hr.out]; rfl, by rw [linV_no hr.out]; exact Fresh.nil (Hb4.out)⟩
  have hbd := inB_true.1 hn
  cases ha : inB a 0 (n - 1)
  · have hr := Lib.hid (linR_no (show linOk n a b c = false by simp [linOk, ha]))
    go_enter Try.func17, Try.ntmps17
    go_wp2_with (go_at_call 48; refine (implIn _ _ _ _ (by assumption) _).mono ?_; rintro e w' ⟨rfl, rfl⟩)
    go_ret2
    exact ⟨_, by rw [hr.out]; rfl, by rw [linV_no hr.out]; exact Fresh.nil (Hb4.out)⟩
  cases hb : inB b 0 (n - 1)
  · have hr := Lib.hid (linR_no (show linOk n a b c = false by simp [linOk, hb]))
    go_enter Try.func17, Try.ntmps17
    go_wp2_with (go_at_call 48; refine (implIn _ _ _ _ (by assumption) _).mono ?_; rintro e w' ⟨rfl, rfl⟩)
    go_ret2
    exact ⟨_, by rw [hr.out]; rfl, by rw [linV_no hr.out]; exact Fresh.nil (Hb4.out)⟩
  cases hc : inB c 0 (n - 1)
  · have hr := Lib.hid (linR_no (show linOk n a b c = false by simp [linOk, hc]))
    go_enter Try.func17, Try.ntmps17
    go_wp2_with (go_at_call 48; refine (implIn _ _ _ _ (by assumption) _).mono ?_; rintro e w' ⟨rfl, rfl⟩)
    go_ret2
    exact ⟨_, by rw [hr.out]; rfl, by rw [linV_no hr.out]; exact Fresh.nil (Hb4.out)⟩
  have hok := Lib.hid (show linOk n a b c = true by simp [linOk, hn, ha, hb, hc])
  have hsq := Lib.hid (tab_sq n.toNat (linF n a b c))
  obtain ⟨N, rfl⟩ := Int.eq_ofNat_of_zero_le (show 0 ≤ n by omega)
  rw [Int.toNat_natCast] at hsq
  have h4 := box4 w (.int .i64 N) (.int .i64 a) (.int .i64 b) (.int .i64 c) 2
  have hcl := Lib.hid (show ∀ x y : Nat, x < N → y < N → ∀ w', Below ((((w.alloc (.cells #[.int .i64 N] 2)).alloc (.cells #[.int .i64 a] 2)).alloc (.cells #[.int .i64 b] 2)).alloc (.cells #[.int .i64 c] 2)).heap.size ((((w.alloc (.cells #[.int .i64 N] 2)).alloc (.cells #[.int .i64 a] 2)).alloc (.cells #[.int .i64 b] 2)).alloc (.cells #[.int .i64 c] 2)) w' →
      Calls Try.prog 50 (#[.int .i64 x, .int .i64 y] ++ #[.pointer (some ⟨w.heap.size + 1, 0, none⟩), .pointer (some ⟨w.heap.size + 1 + 1, 0, none⟩), .pointer (some ⟨w.heap.size + 1 + 1 + 1, 0, none⟩), .pointer (some ⟨w.heap.size, 0, none⟩)]) w' fun e w'' => e = .returned (.int .i64 (linF N a b c x y)) ∧ ∃ m, w'.drewN m = w'' from
    fun x y hx hy w' hw' => implLinear1 hok.out (by rw [Int.toNat_natCast]; exact hx) (by rw [Int.toNat_natCast]; exact hy)
      ((hw'.cell (by rw [alloc_size, alloc_size, alloc_size, alloc_size]; show w.heap.size + 1 < _; omega)).trans h4.2.1) ((hw'.cell (by rw [alloc_size, alloc_size, alloc_size, alloc_size]; show w.heap.size + 1 + 1 < _; omega)).trans h4.2.2.1) ((hw'.cell (by rw [alloc_size, alloc_size, alloc_size, alloc_size]; show w.heap.size + 1 + 1 + 1 < _; omega)).trans h4.2.2.2) ((hw'.cell (by rw [alloc_size, alloc_size, alloc_size, alloc_size]; show w.heap.size < _; omega)).trans h4.1))
  clear h4
  go_enter Try.func17, Try.ntmps17
  go_wp2_with (first | (go_at_call 48; refine (implIn _ _ _ _ (by assumption) _).mono ?_; rintro e w' ⟨rfl, rfl⟩) | (go_at_call 49; refine (implMade N (by omega) (by omega) _ _ _ _ hcl.out (fun _ _ => by kernel_rfl)).mono ?_; rintro e w1 ⟨v1, rfl, hf1⟩))
  have Hf1 := Lib.hid (show Fresh OII w w1 v1 (linT N a b c) from hf1.back Hb4.out)
  have hrd := Lib.hid (hf1.rd OII.leads OII.ok)
  clear hf1
  cases hq : isQ (linT N a b c)
  · have hr := Lib.hid (linR_q hq)
    refine (implIsQuasigroup hrd.out (Nat.le_refl _)).mono ?_
    rw [show isQ (tab N (linF N a b c)) = false from hq]
    rintro e w2 ⟨rfl, hb2⟩
    go_wp2_with fail
    go_ret2
    exact ⟨_, by rw [hr.out]; rfl, by rw [linV_no hr.out]; exact Fresh.nil (Hf1.out.bel.trans (hb2.mono Hf1.out.bel.size))⟩
  · have hr := Lib.hid (linR_yes hok.out hq)
    refine (implIsQuasigroup hrd.out (Nat.le_refl _)).mono ?_
    rw [show isQ (tab N (linF N a b c)) = true from hq]
    rintro e w2 ⟨rfl, hb2⟩
    go_wp2_with fail
    go_ret2
    exact ⟨_, by rw [hr.out]; rfl, by rw [linV_yes hr.out]; exact Hf1.out.stay OII.ok hb2⟩

set_option maxRecDepth 10000 in
theorem specLinearTable (n a b c : Int) (w : World) :
    Calls Try.prog 29 #[.int .i64 n, .int .i64 a, .int .i64 b, .int .i64 c] w fun e w' => ∃ v, e = .returned (.tuple #[v, .bool (linR n a b c)]) ∧ Fresh OII w w' v (linV n a b c) := by
  cases hn : inB n 1 36
  · have hr := Lib.hid (linR_no (show linOk n a b c = false by simp [linOk, hn]))
    go_enter Try.func29, Try.ntmps29
    go_wp2_with (go_at_call 56; refine (specIn _ _ _ _ (by assumption) _).mono ?_; rintro e w' ⟨rfl, rfl⟩)
    go_ret2
    exact ⟨_, by rw [hr.out]; rfl, by rw [linV_no hr.out]; exact Fresh.nil (Below.refl _ _)⟩
  have hbd := inB_true.1 hn
  cases ha : inB a 0 (n - 1)
  · have hr := Lib.hid (linR_no (show linOk n a b c = false by simp [linOk, ha]))
    go_enter Try.func29, Try.ntmps29
    go_wp2_with (go_at_call 56; refine (specIn _ _ _ _ (by assumption) _).mono ?_; rintro e w' ⟨rfl, rfl⟩)
    go_ret2
    exact ⟨_, by rw [hr.out]; rfl, by rw [linV_no hr.out]; exact Fresh.nil (Below.refl _ _)⟩
  cases hb : inB b 0 (n - 1)
  · have hr := Lib.hid (linR_no (show linOk n a b c = false by simp [linOk, hb]))
    go_enter Try.func29, Try.ntmps29
    go_wp2_with (go_at_call 56; refine (specIn _ _ _ _ (by assumption) _).mono ?_; rintro e w' ⟨rfl, rfl⟩)
    go_ret2
    exact ⟨_, by rw [hr.out]; rfl, by rw [linV_no hr.out]; exact Fresh.nil (Below.refl _ _)⟩
  cases hc : inB c 0 (n - 1)
  · have hr := Lib.hid (linR_no (show linOk n a b c = false by simp [linOk, hc]))
    go_enter Try.func29, Try.ntmps29
    go_wp2_with (go_at_call 56; refine (specIn _ _ _ _ (by assumption) _).mono ?_; rintro e w' ⟨rfl, rfl⟩)
    go_ret2
    exact ⟨_, by rw [hr.out]; rfl, by rw [linV_no hr.out]; exact Fresh.nil (Below.refl _ _)⟩
  have hok := Lib.hid (show linOk n a b c = true by simp [linOk, hn, ha, hb, hc])
  have hsq := Lib.hid (tab_sq n.toNat (linF n a b c))
  obtain ⟨N, rfl⟩ := Int.eq_ofNat_of_zero_le (show 0 ≤ n by omega)
  rw [Int.toNat_natCast] at hsq
  have hbda := inB_true.1 ha
  have hbdb := inB_true.1 hb
  have hbdc := inB_true.1 hc
  go_enter Try.func29, Try.ntmps29
  go_wp2_with (first | (go_at_call 56; refine (specIn _ _ _ _ (by assumption) _).mono ?_; rintro e w' ⟨rfl, rfl⟩) | (go_at_call 57; refine (specBlank N (by omega) _).mono ?_; rintro e w1 ⟨v1, rfl, hf⟩))
  obtain ⟨gt, ct, rfl⟩ := hf.shape (by simp [zeros]; omega)
  have hl := hf.len2
  rw [show (zeros N).length = N by simp [zeros]] at *
  have Hf := Lib.hid hf
  clear hf
  unfold maxLen at hl
  go_loopw [11] (fun i wr => ∃ k : Nat, k ≤ N ∧ i = .int .i64 k ∧ ∃ t, Hid (Filled N (linF N a b c) k 0 t) ∧ Hid (Fresh OII w wr (.slice (some ⟨gt, 0, none⟩) N ct) t)) (fun i _ => N - (intOf i).toNat)
  case atStart => exact ⟨0, Nat.zero_le _, rfl, _, Lib.hid (Filled.start N _ (zeros_sq N)), Hf⟩
  case round =>
    obtain ⟨x, hk, rfl, t, ht, hf⟩ := hrel
    by_cases hlt : x < N
    · have m1 := mulBd hbda.1 hbda.2 hbd.2 (show x < (N : Int).toNat by rw [Int.toNat_natCast]; exact hlt)
      go_wp2
      go_loopw [12] (fun i wr => ∃ k : Nat, k ≤ N ∧ i = .int .i64 k ∧ ∃ t, Hid (Filled N (linF N a b c) x k t) ∧ Hid (Fresh OII w wr (.slice (some ⟨gt, 0, none⟩) N ct) t)) (fun i _ => N - (intOf i).toNat)
      case atStart => exact ⟨0, Nat.zero_le _, rfl, _, ht, hf⟩
      case round =>
        obtain ⟨y, hky, rfl, t, ht, hf⟩ := hrel
        by_cases hlty : y < N
        · have m2 := mulBd hbdb.1 hbdb.2 hbd.2 (show y < (N : Int).toNat by rw [Int.toNat_natCast]; exact hlty)
          obtain ⟨gx, cx, hcl, g3, g4, hc2, hfz, hge, hput⟩ := hf.out.put2 (x := x) (y := y) (by rw [ht.out.1.1]; exact hlt) (by rw [ht.out.1.2 x hlt]; exact hlty)
          rw [ht.out.1.2 x hlt] at hcl g3
          unfold maxLen at g4
          have Hput := Lib.hid hput
          clear hput
          have hm := Int.emod_nonneg (a * x + b * y + c) (show (N : Int) ≠ 0 by omega)
          have hm2 := Int.emod_lt_of_pos (a * x + b * y + c) (show 0 < (N : Int) by omega)
          go_wp2
          go_region
          all_goals go_wp2
          all_goals go_roundw
          all_goals first
            | exact ⟨y + 1, by omega, by go_num, _, Lib.hid (ht.out.more hlt hlty rfl), Lib.hid (Hput.out _ (below_draws ⟨_, rfl⟩) _)⟩
            | (simp [intOf]; omega)
        · obtain rfl : y = N := by omega
          have ht2 := Lib.hid ht.out.next
          go_wp2
          go_roundw
          case rel => exact ⟨x + 1, by omega, by go_num, t, ht2, hf⟩
          case measure => simp [intOf]; omega
    · obtain rfl : x = N := by omega
      have e : t = linT x a b c := ht.out.whole
      subst e
      have hrd := Lib.hid (hf.out.rd OII.leads OII.ok)
      cases hq : isQ (linT x a b c)
      · have hr := Lib.hid (linR_q hq)
        go_wp2_with fail
        refine (specL04Is hrd.out (Nat.le_refl _)).mono ?_
        rw [hq]
        rintro e w2 ⟨rfl, hb2⟩
        go_wp2_with fail
        go_ret2
        exact ⟨_, by rw [hr.out]; rfl, by rw [linV_no hr.out]; exact Fresh.nil (hf.out.bel.trans (hb2.mono hf.out.bel.size))⟩
      · have hr := Lib.hid (linR_yes hok.out hq)
        go_wp2_with fail
        refine (specL04Is hrd.out (Nat.le_refl _)).mono ?_
        rw [hq]
        rintro e w2 ⟨rfl, hb2⟩
        go_wp2_with fail
        go_ret2
        exact ⟨_, by rw [hr.out]; rfl, by rw [linV_yes hr.out]; exact hf.out.stay OII.ok hb2⟩

end Go.Proofs.Ytakliggacjckpaa
