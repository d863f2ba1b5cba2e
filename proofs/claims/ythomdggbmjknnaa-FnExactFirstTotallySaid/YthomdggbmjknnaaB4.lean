/- TurnTable. -/
import Derived.Test.YthomdggbmjknnaaB2
namespace Go.Proofs.Ythomdggbmjknnaa
open Go.RowKit
set_option linter.unusedVariables false

/-- k steps, told which each is. -/
def iterTo {α : Type} (step : α → Nat → α) (a : α) : Nat → α
  | 0 => a
  | k + 1 => step (iterTo step a k) k
theorem iterTo_inv {α : Type} {step : α → Nat → α} {a : α} {n : Nat} (p : α → Prop) (h0 : p a) (h : ∀ b k, k < n → p b → p (step b k)) : ∀ k, k ≤ n → p (iterTo step a k) := by
  intro k
  induction k with
  | zero => intro _; exact h0
  | succ k ih => intro hk; exact h _ _ (by omega) (ih (by omega))
def turnSet (kind : Int) (x y : Nat) (z : Int) (out : List (List Int)) : List (List Int) :=
  if kind = 0 then set2 out y x z else if kind = 1 then set2 out x z.toNat y else if kind = 2 then set2 out z.toNat y x else if kind = 3 then set2 out y z.toNat x else set2 out z.toNat x y
def turnRow (t : List (List Int)) (kind : Int) (x : Nat) (out : List (List Int)) (y : Nat) : List (List Int) := iterTo (fun out y => turnSet kind x y (nth (nth t x) y) out) out y
def turnTo (t : List (List Int)) (kind : Int) (x : Nat) : List (List Int) := iterTo (fun out x => turnRow t kind x out t.length) (zeros t.length) x
def turnT (t : List (List Int)) (kind : Int) : List (List Int) := turnTo t kind t.length
theorem turnSet_sq {kind : Int} {n x y : Nat} {z : Int} {out : List (List Int)} (h : Sq n out) (hx : x < n) (hy : y < n) (hz : z.toNat < n) : Sq n (turnSet kind x y z out) := by
  unfold turnSet
  split
  · exact set2_sq h _ _ _ hy
  split
  · exact set2_sq h _ _ _ hx
  split
  · exact set2_sq h _ _ _ hz
  split
  · exact set2_sq h _ _ _ hy
  · exact set2_sq h _ _ _ hz
theorem turnRow_sq {t : List (List Int)} {kind : Int} (hq : isQ t = true) {x : Nat} (hx : x < t.length) {out : List (List Int)} (h : Sq t.length out) {y : Nat} (hy : y ≤ t.length) : Sq t.length (turnRow t kind x out y) :=
  iterTo_inv (Sq t.length) h (fun b k hk hb => turnSet_sq hb hx hk (by have := isQ_bd hq hx hk; omega)) y hy
theorem turnTo_sq {t : List (List Int)} {kind : Int} (hq : isQ t = true) {x : Nat} (hx : x ≤ t.length) : Sq t.length (turnTo t kind x) :=
  iterTo_inv (Sq t.length) (zeros_sq _) (fun b k hk hb => turnRow_sq hq hk hb (Nat.le_refl _)) x hx
def turnOk (t : List (List Int)) (kind : Int) : Bool := isQ t && inB kind 0 4
def turnV (t : List (List Int)) (kind : Int) : List (List Int) := if turnOk t kind then turnT t kind else []
theorem turnV_no {t : List (List Int)} {kind : Int} (h : turnOk t kind = false) : turnV t kind = [] := by simp [turnV, h]
theorem turnV_yes {t : List (List Int)} {kind : Int} (h : turnOk t kind = true) : turnV t kind = turnT t kind := by simp [turnV, h]
theorem sq_cnt {n : Nat} {t : List (List Int)} (h : Sq n t) (hn : n ≤ 36) : cntL List.length t ≤ 1296 := by
  have h36 : ∀ x ∈ t, x.length ≤ 36 := by
    intro x hx
    obtain ⟨i, hi, rfl⟩ := List.mem_iff_getElem.1 hx
    rw [← nth_eq hi]
    have := h.2 i (by rw [← h.1]; exact hi)
    omega
  have hl := h.1
  have : cntL List.length t ≤ t.length * 36 := by
    clear h hl
    induction t with
    | nil => simp [cntL]
    | cons x t ih =>
      have h1 := h36 x (by simp)
      have h2 := ih (fun y hy => h36 y (by simp [hy]))
      simp only [cntL, List.map_cons, List.sum_cons, List.length_cons] at h2 ⊢
      omega
  omega
theorem turnV_cnt (t : List (List Int)) (kind : Int) : cntL List.length (turnV t kind) ≤ 1296 := by
  unfold turnV
  split
  · rename_i h
    simp only [turnOk, Bool.and_eq_true] at h
    exact sq_cnt (turnTo_sq h.1 (Nat.le_refl _)) (isQ_len h.1).2
  · simp [cntL]
theorem kind_cases {kind : Int} (h : inB kind 0 4 = true) : kind = 0 ∨ kind = 1 ∨ kind = 2 ∨ kind = 3 ∨ kind = 4 := by have := inB_true.1 h; omega
theorem RdI.cell {P : Nat → Prop} {w : World} {a : Option Addr} {n c : Nat} {xs : List Int} (h : RdI P w (.slice a n c) xs) {i : Nat} (hi : i < xs.length) :
    ∃ b o, a = some ⟨b, o, none⟩ ∧ P b ∧ w.cell? ⟨b, o + i, none⟩ = some (.int .i64 (nth xs i)) := by
  obtain ⟨a1, c1, e, h1, h2, hrd⟩ := h
  simp only [Value.slice.injEq] at e
  obtain ⟨rfl, _, rfl⟩ := e
  obtain ⟨b, o, u, e1, e2, e3, rfl⟩ := hrd i hi
  exact ⟨b, o, e1, e2, e3⟩

set_option maxRecDepth 10000 in
theorem implTurnTable {B : Nat} {v : Value} {t : List (List Int)} {w : World} (h : RdII (· < B) w v t) (hB : B ≤ w.heap.size) (kind : Int) :
    Calls Try.prog 19 #[v, .int .i64 kind] w fun e w' => ∃ v, e = .returned (.tuple #[v, .bool (turnOk t kind)]) ∧ Fresh OII w w' v (turnV t kind) := by
  cases hq : isQ t
  · have hr := Lib.hid (show turnOk t kind = false by simp [turnOk, hq])
    go_enter Try.func19, Try.ntmps19
    go_wp2_with fail
    refine (implIsQuasigroup h hB).mono ?_
    rw [hq]
    rintro e w1 ⟨rfl, hb⟩
    go_wp2_with fail
    go_ret2
    exact ⟨_, by rw [hr.out]; rfl, by rw [turnV_no hr.out]; exact Fresh.nil hb⟩
  cases hk4 : inB kind 0 4
  · have hq' := Lib.hid hq
    have hr := Lib.hid (show turnOk t kind = false by simp [turnOk, hk4])
    go_enter Try.func19, Try.ntmps19
    go_wp2_with fail
    refine (implIsQuasigroup h hB).mono ?_
    rw [hq'.out]
    rintro e w1 ⟨rfl, hb⟩
    go_wp2_with (go_at_call 36; refine (implIn _ _ _ _ (by assumption) _).mono ?_; rintro e w' ⟨rfl, rfl⟩)
    go_ret2
    exact ⟨_, by rw [hr.out]; rfl, by rw [turnV_no hr.out]; exact Fresh.nil hb⟩
  have hr := Lib.hid (show turnOk t kind = true by simp [turnOk, hk4, hq])
  have hq' := Lib.hid hq
  have h0 := Lib.hid h
  have hl := isQ_len hq
  have hrl := Lib.hid (fun x (hx : x < t.length) => isQ_rowLen hq hx)
  have hbd := Lib.hid (fun x y (hx : x < t.length) (hy : y < t.length) => isQ_bd hq hx hy)
  obtain ⟨a, cp, rfl, h1, h2⟩ := h.isSlice
  unfold maxLen at h2
  have hkd := kind_cases hk4
  clear h hq
  have hk' := Lib.hid hk4
  go_enter Try.func19, Try.ntmps19
  go_wp2_with fail
  refine (implIsQuasigroup h0.out hB).mono ?_
  rw [hq'.out]
  rintro e w1 ⟨rfl, hb1⟩
  have Hb1 := Lib.hid hb1
  clear hb1
  go_wp2_with (go_at_call 36; refine (implIn _ _ _ _ (by assumption) _).mono ?_; rintro e w' ⟨rfl, rfl⟩)
  refine (implBlank t.length hl.2 _).mono ?_
  rintro e w2 ⟨v1, rfl, hf0⟩
  have hf := hf0.back Hb1.out
  clear hf0
  obtain ⟨gt, ct, rfl⟩ := hf.shape (by simp [zeros]; omega)
  have hl3 := hf.len2
  rw [show (zeros t.length).length = t.length by simp [zeros]] at *
  have Hf := Lib.hid hf
  clear hf
  unfold maxLen at hl3
  go_wp2_with fail
  go_loopw [26] (fun i wr => ∃ k : Nat, k ≤ t.length ∧ i = .int .i64 k ∧ Hid (Fresh OII w wr (.slice (some ⟨gt, 0, none⟩) t.length ct) (turnTo t kind k))) (fun i _ => t.length - (intOf i).toNat)
  case atStart => exact ⟨0, Nat.zero_le _, rfl, Hf⟩
  case round =>
    obtain ⟨x, hk, rfl, hf⟩ := hrel
    by_cases hlt : x < t.length
    · obtain ⟨b, o, a', c', rfl, hb, hcw, g1, g2, hr⟩ := h0.out.row hlt
      have Hr := Lib.hid hr
      clear hr
      rw [hrl.out x hlt] at hcw g1 Hr
      have hc := (hf.out.bel.cell (Nat.lt_of_lt_of_le hb hB)).trans hcw
      have Hcw := Lib.hid hcw
      clear hcw
      unfold maxLen at g2
      go_wp2
      go_loopw [33] (fun i wr => ∃ k : Nat, k ≤ t.length ∧ i = .int .i64 k ∧ Hid (Fresh OII w wr (.slice (some ⟨gt, 0, none⟩) t.length ct) (turnRow t kind x (turnTo t kind x) k))) (fun i _ => t.length - (intOf i).toNat)
      case atStart => exact ⟨0, Nat.zero_le _, rfl, hf⟩
      case round =>
        clear hc
        obtain ⟨y, hky, rfl, hg⟩ := hrel
        by_cases hlty : y < t.length
        · have hsq := turnRow_sq (kind := kind) hq'.out hlt (turnTo_sq (kind := kind) hq'.out (Nat.le_of_lt hlt)) hky
          have hc := (hg.out.bel.cell (Nat.lt_of_lt_of_le hb hB)).trans Hcw.out
          obtain ⟨b', o', rfl, hPb', hc4⟩ := RdI.cell (Rd.below RdI.ok Hr.out (hg.out.bel.mono hB)) (i := y) (by rw [hrl.out x hlt]; exact hlty)
          obtain ⟨Z, hZ⟩ := Int.eq_ofNat_of_zero_le (hbd.out x y hlt hlty).1
          have hZl : Z < t.length := by have := (hbd.out x y hlt hlty).2; omega
          rw [hZ] at hc4
          generalize hO : turnRow t kind x (turnTo t kind x) y = O at hsq hg
          have hnext : turnRow t kind x (turnTo t kind x) (y + 1) = turnSet kind x y (Z : Int) O := by rw [← hO, ← hZ]; rfl
          have hg' := hg
          clear hO hZ
          rcases hkd with rfl | rfl | rfl | rfl | rfl
          · obtain ⟨gx, cx, hd, g5, g6, hc2, hfz, hge, hput⟩ := hg.out.put2 (x := y) (y := x) (by rw [hsq.1]; exact hlty) (by rw [hsq.2 _ hlty]; exact hlt)
            rw [hsq.2 _ hlty] at hd g5
            unfold maxLen at g6
            have hres := Lib.hid (show Fresh OII w (wr.setCell ⟨gx, x, none⟩ (.int .i64 (Z : Int))) (.slice (some ⟨gt, 0, none⟩) t.length ct) (turnRow t 0 x (turnTo t 0 x) (y + 1)) by
              rw [hnext, show turnSet 0 x y (Z : Int) O = set2 O y x (Z : Int) by simp [turnSet]]
              exact hput _ (Below.refl _ _) _)
            clear hput hnext hg'
            go_wp2
            go_roundw
            case rel => exact ⟨y + 1, by omega, by go_num, hres⟩
            case measure => simp [intOf]; omega
          · obtain ⟨gx, cx, hd, g5, g6, hc2, hfz, hge, hput⟩ := hg.out.put2 (x := x) (y := Z) (by rw [hsq.1]; exact hlt) (by rw [hsq.2 _ hlt]; exact hZl)
            rw [hsq.2 _ hlt] at hd g5
            unfold maxLen at g6
            have hres := Lib.hid (show Fresh OII w (wr.setCell ⟨gx, Z, none⟩ (.int .i64 (y : Int))) (.slice (some ⟨gt, 0, none⟩) t.length ct) (turnRow t 1 x (turnTo t 1 x) (y + 1)) by
              rw [hnext, show turnSet 1 x y (Z : Int) O = set2 O x Z (y : Int) by simp [turnSet]]
              exact hput _ (Below.refl _ _) _)
            clear hput hnext hg'
            go_wp2
            go_roundw
            case rel => exact ⟨y + 1, by omega, by go_num, hres⟩
            case measure => simp [intOf]; omega
          · obtain ⟨gx, cx, hd, g5, g6, hc2, hfz, hge, hput⟩ := hg.out.put2 (x := Z) (y := y) (by rw [hsq.1]; exact hZl) (by rw [hsq.2 _ hZl]; exact hlty)
            rw [hsq.2 _ hZl] at hd g5
            unfold maxLen at g6
            have hres := Lib.hid (show Fresh OII w (wr.setCell ⟨gx, y, none⟩ (.int .i64 (x : Int))) (.slice (some ⟨gt, 0, none⟩) t.length ct) (turnRow t 2 x (turnTo t 2 x) (y + 1)) by
              rw [hnext, show turnSet 2 x y (Z : Int) O = set2 O Z y (x : Int) by simp [turnSet]]
              exact hput _ (Below.refl _ _) _)
            clear hput hnext hg'
            go_wp2
            go_roundw
            case rel => exact ⟨y + 1, by omega, by go_num, hres⟩
            case measure => simp [intOf]; omega
          · obtain ⟨gx, cx, hd, g5, g6, hc2, hfz, hge, hput⟩ := hg.out.put2 (x := y) (y := Z) (by rw [hsq.1]; exact hlty) (by rw [hsq.2 _ hlty]; exact hZl)
            rw [hsq.2 _ hlty] at hd g5
            unfold maxLen at g6
            have hres := Lib.hid (show Fresh OII w (wr.setCell ⟨gx, Z, none⟩ (.int .i64 (x : Int))) (.slice (some ⟨gt, 0, none⟩) t.length ct) (turnRow t 3 x (turnTo t 3 x) (y + 1)) by
              rw [hnext, show turnSet 3 x y (Z : Int) O = set2 O y Z (x : Int) by simp [turnSet]]
              exact hput _ (Below.refl _ _) _)
            clear hput hnext hg'
            go_wp2
            go_roundw
            case rel => exact ⟨y + 1, by omega, by go_num, hres⟩
            case measure => simp [intOf]; omega
          · obtain ⟨gx, cx, hd, g5, g6, hc2, hfz, hge, hput⟩ := hg.out.put2 (x := Z) (y := x) (by rw [hsq.1]; exact hZl) (by rw [hsq.2 _ hZl]; exact hlt)
            rw [hsq.2 _ hZl] at hd g5
            unfold maxLen at g6
            have hres := Lib.hid (show Fresh OII w (wr.setCell ⟨gx, x, none⟩ (.int .i64 (y : Int))) (.slice (some ⟨gt, 0, none⟩) t.length ct) (turnRow t 4 x (turnTo t 4 x) (y + 1)) by
              rw [hnext, show turnSet 4 x y (Z : Int) O = set2 O Z x (y : Int) by simp [turnSet]]
              exact hput _ (Below.refl _ _) _)
            clear hput hnext hg'
            go_wp2
            go_roundw
            case rel => exact ⟨y + 1, by omega, by go_num, hres⟩
            case measure => simp [intOf]; omega
        · obtain rfl : y = t.length := by omega
          go_wp2
          go_roundw
          case rel => exact ⟨x + 1, by omega, by go_num, hg⟩
          case measure => simp [intOf]; omega
    · obtain rfl : x = t.length := by omega
      go_wp2
      go_ret2
      exact ⟨_, by rw [hr.out]; rfl, by rw [turnV_yes hr.out]; exact hf.out⟩

end Go.Proofs.Ythomdggbmjknnaa
