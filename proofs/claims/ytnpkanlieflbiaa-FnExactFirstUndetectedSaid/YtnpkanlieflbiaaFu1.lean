/- The first undetected error, plainly: lists in order, the least error. Nothing here walks. -/
import Derived.Test.YtnpkanlieflbiaaC5
import Derived.Test.YtnpkanlieflbiaaZ1
namespace Go.Proofs.Ytnpkanlieflbiaa
open Go.RowKit
set_option linter.unusedVariables false

/-! ### Lists in order -/
def lexL : List Int → List Int → Bool
  | a :: u, b :: v => decide (a < b) || (decide (a = b) && lexL u v)
  | [], _ :: _ => true
  | _, [] => false
theorem lexL_cons (a b : Int) (u v : List Int) : lexL (a :: u) (b :: v) = (decide (a < b) || (decide (a = b) && lexL u v)) := rfl
theorem lexL_irr : ∀ u : List Int, lexL u u = false
  | [] => rfl
  | a :: u => by rw [lexL_cons, lexL_irr u]; simp
theorem lexL_same (a : Int) (u v : List Int) : lexL (a :: u) (a :: v) = lexL u v := by rw [lexL_cons]; simp
theorem lexL_lt {a b : Int} (h : a < b) (u v : List Int) : lexL (a :: u) (b :: v) = true := by rw [lexL_cons]; simp [h]
theorem lexL_gt {a b : Int} (h : b < a) (u v : List Int) : lexL (a :: u) (b :: v) = false := by
  rw [lexL_cons]
  have h1 : ¬ a < b := by omega
  have h2 : ¬ a = b := by omega
  simp [h1, h2]
theorem lexL_trans : ∀ {u v w : List Int}, lexL u v = true → lexL v w = true → lexL u w = true
  | [], [], w, h1, h2 => by simp [lexL] at h1
  | [], b :: v, [], h1, h2 => by simp [lexL] at h2
  | [], b :: v, c :: w, h1, h2 => rfl
  | a :: u, [], w, h1, h2 => by simp [lexL] at h1
  | a :: u, b :: v, [], h1, h2 => by simp [lexL] at h2
  | a :: u, b :: v, c :: w, h1, h2 => by
    rw [lexL_cons] at h1 h2 ⊢
    simp only [Bool.or_eq_true, Bool.and_eq_true, decide_eq_true_eq] at h1 h2 ⊢
    rcases h1 with h1 | ⟨h1, h1'⟩ <;> rcases h2 with h2 | ⟨h2, h2'⟩
    · exact .inl (by omega)
    · exact .inl (by omega)
    · exact .inl (by omega)
    · exact .inr ⟨by omega, lexL_trans h1' h2'⟩
theorem lexL_tri : ∀ {u v : List Int}, lexL u v = false → lexL v u = false → u = v
  | [], [], _, _ => rfl
  | [], b :: v, h1, h2 => by simp [lexL] at h1
  | a :: u, [], h1, h2 => by simp [lexL] at h2
  | a :: u, b :: v, h1, h2 => by
    rw [lexL_cons] at h1 h2
    simp only [Bool.or_eq_false_iff, Bool.and_eq_false_iff, decide_eq_false_iff_not] at h1 h2
    obtain ⟨h1, h1'⟩ := h1
    obtain ⟨h2, h2'⟩ := h2
    have e : a = b := by omega
    subst e
    rw [lexL_tri (h1'.resolve_left (by simp)) (h2'.resolve_left (by simp))]
theorem lexL_asym {u v : List Int} (h : lexL u v = true) : lexL v u = false := by
  cases h2 : lexL v u
  · rfl
  · have := lexL_trans h h2
    rw [lexL_irr] at this
    exact absurd this (by decide)
/-- u is not behind v, v is not behind w. -/
theorem lexL_le {u v w : List Int} (h1 : lexL v u = false) (h2 : lexL w v = false) : lexL w u = false := by
  cases h : lexL w u
  · rfl
  · exfalso
    cases h3 : lexL u v
    · have e := lexL_tri h3 h1
      subst e
      rw [h] at h2
      exact absurd h2 (by decide)
    · have := lexL_trans h h3
      rw [this] at h2
      exact absurd h2 (by decide)
theorem lexL_app : ∀ {p q : List Int} (u v : List Int), p.length = q.length → lexL (p ++ u) (q ++ v) = (lexL p q || (decide (p = q) && lexL u v))
  | [], [], u, v, _ => by simp [lexL]
  | [], b :: q, u, v, h => by simp at h
  | a :: p, [], u, v, h => by simp at h
  | a :: p, b :: q, u, v, h => by
    rw [List.cons_append, List.cons_append, lexL_cons, lexL_cons, lexL_app u v (by simpa using h)]
    by_cases h1 : a < b
    · simp [h1]
    · by_cases h2 : a = b
      · subst h2; simp
      · simp [h1, h2]
theorem lexL_pre (p u v : List Int) : lexL (p ++ u) (p ++ v) = lexL u v := by rw [lexL_app u v rfl, lexL_irr]; simp
theorem lexL_no {p q u v : List Int} (hl : p.length = q.length) (h1 : lexL p q = false) (h2 : p = q → lexL u v = false) : lexL (p ++ u) (q ++ v) = false := by
  rw [lexL_app u v hl, h1]
  by_cases e : p = q
  · simp [e, h2 e]
  · simp [e]

/-! ### The errors at a place -/
/-- An undetected error in its parts: before it, the symbols, what becomes of them, behind it. -/
structure ErP (x : Chn) (kind : Int) (p : Nat) (a f t c : List Int) : Prop where
  la : a.length = p
  da : Digs x.b a
  lf : f.length = errLen kind
  df : Digs x.b f
  to : t ∈ chg kind x.b f
  c1 : Leads1 x (x.n - (p + errLen kind)) (p + errLen kind) (runN x p (runN x 0 x.start.toNat a) f) c
  c2 : Leads1 x (x.n - (p + errLen kind)) (p + errLen kind) (runN x p (runN x 0 x.start.toNat a) t) c
def Er (x : Chn) (kind : Int) (p : Nat) (w v : List Int) : Prop := ∃ a f t c, ErP x kind p a f t c ∧ w = a ++ (f ++ c) ∧ v = a ++ (t ++ c)
/-- Is there an error of these symbols, into those, in a state at a place? -/
def goodN (x : Chn) (kind : Int) (p s : Nat) (f t : List Int) : Prop := 0 < bothV x (p + errLen kind) (runN x p s f) (runN x p s t)
theorem good_iff {x : Chn} {kind : Int} {p s : Nat} {f t : List Int} : goodN x kind p s f t ↔ ∃ c, Leads1 x (x.n - (p + errLen kind)) (p + errLen kind) (runN x p s f) c ∧ Leads1 x (x.n - (p + errLen kind)) (p + errLen kind) (runN x p s t) c := bothV_pos
/-- Can an error be in this state at this place? -/
def canN (x : Chn) (kind : Int) (p s : Nat) : Prop := ∃ f t, f.length = errLen kind ∧ Digs x.b f ∧ t ∈ chg kind x.b f ∧ goodN x kind p s f t
theorem ErP.good {x : Chn} {kind : Int} {p : Nat} {a f t c : List Int} (h : ErP x kind p a f t c) : goodN x kind p (runN x 0 x.start.toNat a) f t := good_iff.2 ⟨c, h.c1, h.c2⟩
theorem ErP.can {x : Chn} {kind : Int} {p : Nat} {a f t c : List Int} (h : ErP x kind p a f t c) : canN x kind p (runN x 0 x.start.toNat a) := ⟨f, t, h.lf, h.df, h.to, h.good⟩
/-- The least of a property. -/
def LeastL (S : List Int → Prop) (w : List Int) : Prop := S w ∧ ∀ v, S v → lexL v w = false
theorem LeastL.eq {S : List Int → Prop} {w v : List Int} (h : LeastL S w) (h' : LeastL S v) : w = v := lexL_tri (h'.2 w h.1) (h.2 v h'.1)
theorem LeastL.congr {S T : List Int → Prop} {w : List Int} (h : LeastL S w) (e : ∀ v, S v ↔ T v) : LeastL T w := ⟨(e w).1 h.1, fun v hv => h.2 v ((e v).2 hv)⟩
def PreS (x : Chn) (kind : Int) (p : Nat) (a : List Int) : Prop := a.length = p ∧ Digs x.b a ∧ canN x kind p (runN x 0 x.start.toNat a)
def FrmS (x : Chn) (kind : Int) (p s : Nat) (f : List Int) : Prop := f.length = errLen kind ∧ Digs x.b f ∧ ∃ t, t ∈ chg kind x.b f ∧ goodN x kind p s f t
def BehS (x : Chn) (kind : Int) (p s : Nat) (f c : List Int) : Prop := ∃ t, t ∈ chg kind x.b f ∧ Leads1 x (x.n - (p + errLen kind)) (p + errLen kind) (runN x p s f) c ∧ Leads1 x (x.n - (p + errLen kind)) (p + errLen kind) (runN x p s t) c
def WrdS (x : Chn) (kind : Int) (p : Nat) (w : List Int) : Prop := ∃ v, Er x kind p w v
section least
variable {x : Chn} {kind : Int} {p : Nat} {a f c : List Int}
theorem wrd_of (ha : PreS x kind p a) (hf : FrmS x kind p (runN x 0 x.start.toNat a) f) {t : List Int} (ht : t ∈ chg kind x.b f)
    (h1 : Leads1 x (x.n - (p + errLen kind)) (p + errLen kind) (runN x p (runN x 0 x.start.toNat a) f) c) (h2 : Leads1 x (x.n - (p + errLen kind)) (p + errLen kind) (runN x p (runN x 0 x.start.toNat a) t) c) :
    Er x kind p (a ++ (f ++ c)) (a ++ (t ++ c)) := ⟨a, f, t, c, ⟨ha.1, ha.2.1, hf.1, hf.2.1, ht, h1, h2⟩, rfl, rfl⟩
/-- Part by part the least makes the least word. -/
theorem least_word (ha : LeastL (PreS x kind p) a) (hf : LeastL (FrmS x kind p (runN x 0 x.start.toNat a)) f) (hc : LeastL (BehS x kind p (runN x 0 x.start.toNat a) f) c) : LeastL (WrdS x kind p) (a ++ (f ++ c)) := by
  obtain ⟨⟨t, ht, h1, h2⟩, hc2⟩ := hc
  refine ⟨⟨_, wrd_of ha.1 hf.1 ht h1 h2⟩, ?_⟩
  rintro v ⟨v', a', f', t', c', hE, rfl, rfl⟩
  refine lexL_no (by rw [hE.la, ha.1.1]) (ha.2 a' ⟨hE.la, hE.da, hE.can⟩) fun e => ?_
  subst e
  refine lexL_no (by rw [hE.lf, hf.1.1]) (hf.2 f' ⟨hE.lf, hE.df, t', hE.to, hE.good⟩) fun e => ?_
  subst e
  exact hc2 c' ⟨t', hE.to, hE.c1, hE.c2⟩
/-- The errors of the word that is made so. -/
theorem er_parts (ha : a.length = p) (hf : f.length = errLen kind) {v : List Int} (h : Er x kind p (a ++ (f ++ c)) v) : ∃ t, t ∈ chg kind x.b f ∧ v = a ++ (t ++ c) ∧ ErP x kind p a f t c := by
  obtain ⟨a', f', t', c', hE, e1, rfl⟩ := h
  have h1 := List.append_inj e1 (by rw [ha, hE.la])
  obtain ⟨rfl, h2⟩ := h1
  have h3 := List.append_inj h2 (by rw [hf, hE.lf])
  obtain ⟨rfl, rfl⟩ := h3
  exact ⟨t', hE.to, rfl, hE⟩
end least
/-- The least error at a place: the least word, and of it the least wrong word. -/
def At2 (x : Chn) (kind : Int) (p : Nat) (w v : List Int) : Prop := LeastL (WrdS x kind p) w ∧ LeastL (Er x kind p w) v
/-- The least error of all. -/
def AllW (x : Chn) (kind : Int) (w : List Int) : Prop := ∃ p, p + errLen kind ≤ x.n ∧ WrdS x kind p w
def AllE (x : Chn) (kind : Int) (w v : List Int) : Prop := ∃ p, p + errLen kind ≤ x.n ∧ Er x kind p w v
def All2 (x : Chn) (kind : Int) (w v : List Int) : Prop := LeastL (AllW x kind) w ∧ LeastL (AllE x kind w) v
theorem All2.eq {x : Chn} {kind : Int} {w v w' v' : List Int} (h : All2 x kind w v) (h' : All2 x kind w' v') : w = w' ∧ v = v' := by
  have e := h.1.eq h'.1
  subst e
  exact ⟨rfl, h.2.eq h'.2⟩
/-- What is found at the places before k. -/
structure Upto (x : Chn) (kind : Int) (k : Nat) (w v : List Int) : Prop where
  wrd : LeastL (fun w => ∃ p, p < k ∧ WrdS x kind p w) w
  err : LeastL (fun v => ∃ p, p < k ∧ Er x kind p w v) v
def NoneTo (x : Chn) (kind : Int) (k : Nat) : Prop := ∀ p, p < k → ∀ w, ¬ WrdS x kind p w
section upto
variable {x : Chn} {kind : Int} {k : Nat} {w v w' v' : List Int}
theorem NoneTo.zero (x : Chn) (kind : Int) : NoneTo x kind 0 := fun p hp => absurd hp (Nat.not_lt_zero _)
theorem NoneTo.no (h : NoneTo x kind k) (h2 : ∀ w, ¬ WrdS x kind k w) : NoneTo x kind (k + 1) := fun p hp w => by
  rcases Nat.lt_succ_iff_lt_or_eq.1 hp with h1 | rfl
  · exact h p h1 w
  · exact h2 w
theorem NoneTo.yes (h : NoneTo x kind k) (h2 : At2 x kind k w v) : Upto x kind (k + 1) w v := by
  refine ⟨⟨⟨k, by omega, h2.1.1⟩, ?_⟩, ⟨⟨k, by omega, h2.2.1⟩, ?_⟩⟩
  · rintro u ⟨p, hp, hu⟩
    rcases Nat.lt_succ_iff_lt_or_eq.1 hp with h1 | rfl
    · exact absurd hu (h p h1 u)
    · exact h2.1.2 u hu
  · rintro u ⟨p, hp, hu⟩
    rcases Nat.lt_succ_iff_lt_or_eq.1 hp with h1 | rfl
    · exact absurd ⟨u, hu⟩ (h p h1 w)
    · exact h2.2.2 u hu
theorem Upto.no (h : Upto x kind k w v) (h2 : ∀ w, ¬ WrdS x kind k w) : Upto x kind (k + 1) w v := by
  obtain ⟨⟨p, hp, h3⟩, h4⟩ := h.wrd
  obtain ⟨⟨q, hq, h5⟩, h6⟩ := h.err
  refine ⟨⟨⟨p, by omega, h3⟩, ?_⟩, ⟨⟨q, by omega, h5⟩, ?_⟩⟩
  · rintro u ⟨r, hr, hu⟩
    rcases Nat.lt_succ_iff_lt_or_eq.1 hr with h1 | rfl
    · exact h4 u ⟨r, h1, hu⟩
    · exact absurd hu (h2 u)
  · rintro u ⟨r, hr, hu⟩
    rcases Nat.lt_succ_iff_lt_or_eq.1 hr with h1 | rfl
    · exact h6 u ⟨r, h1, hu⟩
    · exact absurd ⟨u, hu⟩ (h2 w)
/-- The new word is before: it is taken. -/
theorem Upto.take (h : Upto x kind k w v) (h2 : At2 x kind k w' v') (hl : lexL w' w = true) : Upto x kind (k + 1) w' v' := by
  refine ⟨⟨⟨k, by omega, h2.1.1⟩, ?_⟩, ⟨⟨k, by omega, h2.2.1⟩, ?_⟩⟩
  · rintro u ⟨r, hr, hu⟩
    rcases Nat.lt_succ_iff_lt_or_eq.1 hr with h1 | rfl
    · exact lexL_le (lexL_asym hl) (h.wrd.2 u ⟨r, h1, hu⟩)
    · exact h2.1.2 u hu
  · rintro u ⟨r, hr, hu⟩
    rcases Nat.lt_succ_iff_lt_or_eq.1 hr with h1 | rfl
    · have := h.wrd.2 w' ⟨r, h1, u, hu⟩
      rw [hl] at this
      exact absurd this (by decide)
    · exact h2.2.2 u hu
/-- The new word is behind: it is left. -/
theorem Upto.leave (h : Upto x kind k w v) (h2 : At2 x kind k w' v') (hl : lexL w w' = true) : Upto x kind (k + 1) w v := by
  obtain ⟨⟨p, hp, h3⟩, h4⟩ := h.wrd
  obtain ⟨⟨q, hq, h5⟩, h6⟩ := h.err
  refine ⟨⟨⟨p, by omega, h3⟩, ?_⟩, ⟨⟨q, by omega, h5⟩, ?_⟩⟩
  · rintro u ⟨r, hr, hu⟩
    rcases Nat.lt_succ_iff_lt_or_eq.1 hr with h1 | rfl
    · exact h4 u ⟨r, h1, hu⟩
    · exact lexL_le (lexL_asym hl) (h2.1.2 u hu)
  · rintro u ⟨r, hr, hu⟩
    rcases Nat.lt_succ_iff_lt_or_eq.1 hr with h1 | rfl
    · exact h6 u ⟨r, h1, hu⟩
    · have := h2.1.2 w ⟨u, hu⟩
      rw [hl] at this
      exact absurd this (by decide)
/-- The same word: the lesser wrong word is taken. -/
theorem Upto.same (h : Upto x kind k w v) (h2 : At2 x kind k w v') : Upto x kind (k + 1) w (if lexL v' v then v' else v) := by
  obtain ⟨⟨p, hp, h3⟩, h4⟩ := h.wrd
  obtain ⟨⟨q, hq, h5⟩, h6⟩ := h.err
  refine ⟨⟨⟨p, by omega, h3⟩, ?_⟩, ?_, ?_⟩
  · rintro u ⟨r, hr, hu⟩
    rcases Nat.lt_succ_iff_lt_or_eq.1 hr with h1 | rfl
    · exact h4 u ⟨r, h1, hu⟩
    · exact h2.1.2 u hu
  · split
    · exact ⟨k, by omega, h2.2.1⟩
    · exact ⟨q, by omega, h5⟩
  · rintro u ⟨r, hr, hu⟩
    have h7 : lexL v' v = true → lexL v v' = false := lexL_asym
    rcases Nat.lt_succ_iff_lt_or_eq.1 hr with h1 | rfl
    · have h8 := h6 u ⟨r, h1, hu⟩
      split
      · exact lexL_le (h7 (by assumption)) h8
      · exact h8
    · have h8 := h2.2.2 u hu
      split
      · exact h8
      · rename_i h9
        exact lexL_le (by simpa using h9) h8
theorem Upto.all (h : Upto x kind k w v) (hk : ∀ p, p < k ↔ p + errLen kind ≤ x.n) : All2 x kind w v :=
  ⟨h.wrd.congr fun u => ⟨fun ⟨p, hp, h⟩ => ⟨p, (hk p).1 hp, h⟩, fun ⟨p, hp, h⟩ => ⟨p, (hk p).2 hp, h⟩⟩, h.err.congr fun u => ⟨fun ⟨p, hp, h⟩ => ⟨p, (hk p).1 hp, h⟩, fun ⟨p, hp, h⟩ => ⟨p, (hk p).2 hp, h⟩⟩⟩
end upto
end Go.Proofs.Ytnpkanlieflbiaa
/- The first undetected error, plainly: the least list symbol by symbol; the fronts; one place in the reference's way. Nothing here walks. -/
namespace Go.Proofs.Ytnpkanlieflbiaa
open Go.RowKit
set_option linter.unusedVariables false

/-! ### Symbol by symbol -/
/-- u begins the least list of S. -/
def GP (S : List Int → Prop) (u : List Int) : Prop := (∃ c, S c ∧ c.take u.length = u) ∧ ∀ c, S c → lexL (c.take u.length) u = false
theorem GP.nil {S : List Int → Prop} {c : List Int} (h : S c) : GP S [] := ⟨⟨c, h, rfl⟩, fun c _ => rfl⟩
theorem lexL_len {u v : List Int} (hl : u.length = v.length) {a b : Int} (h1 : lexL u v = false) (h2 : u = v → ¬ a < b) : lexL (u ++ [a]) (v ++ [b]) = false :=
  lexL_no hl h1 fun e => by
    have := h2 e
    rw [lexL_cons]; simp [this, lexL]
theorem GP.step {S : List Int → Prop} {u : List Int} {d : Int} {m : Nat} (hS : ∀ c, S c → c.length = m) (hu : u.length < m) (h : GP S u) (h1 : ∃ c, S c ∧ c.take (u.length + 1) = u ++ [d])
    (h2 : ∀ c, S c → c.take u.length = u → ¬ nth c u.length < d) : GP S (u ++ [d]) := by
  have hl : (u ++ [d]).length = u.length + 1 := by simp
  refine ⟨by rw [hl]; exact h1, fun c hc => ?_⟩
  have hcl := hS c hc
  rw [hl, take_nth (by omega)]
  exact lexL_len (by simp; omega) (h.2 c hc) fun e => h2 c hc e
theorem GP.done {S : List Int → Prop} {u : List Int} {m : Nat} (hS : ∀ c, S c → c.length = m) (hu : u.length = m) (h : GP S u) : LeastL S u := by
  obtain ⟨⟨c, hc, e⟩, h2⟩ := h
  have ht : ∀ c, S c → c.take u.length = c := fun c hc => by rw [List.take_of_length_le (by rw [hS c hc]; omega)]
  rw [ht c hc] at e
  subst e
  refine ⟨hc, fun v hv => ?_⟩
  have := h2 v hv
  rwa [ht v hv] at this

theorem digs_app {b : Nat} {u c : List Int} : Digs b (u ++ c) ↔ Digs b u ∧ Digs b c := by
  constructor
  · intro h
    exact ⟨fun d hd => h d (by simp [hd]), fun d hd => h d (by simp [hd])⟩
  · rintro ⟨h1, h2⟩ d hd
    rcases List.mem_append.1 hd with h | h
    · exact h1 d h
    · exact h2 d h
theorem leads_app {x : Chn} {r m k s : Nat} {u c : List Int} (hm : m = u.length + r) : Leads1 x m k s (u ++ c) ↔ Digs x.b u ∧ Leads1 x r (k + u.length) (runN x k s u) c := by
  subst hm
  constructor
  · rintro ⟨h1, h2, h3⟩
    have h4 := digs_app.1 h2
    rw [runN_append] at h3
    exact ⟨h4.1, ⟨by simp at h1; omega, h4.2, h3⟩⟩
  · rintro ⟨h1, h2, h3, h4⟩
    refine ⟨by simp; omega, digs_app.2 ⟨h1, h3⟩, ?_⟩
    rw [runN_append]; exact h4
/-! ### Behind two states -/
def TwoS (x : Chn) (r k s t : Nat) (c : List Int) : Prop := Leads1 x r k s c ∧ Leads1 x r k t c
theorem TwoS.len {x : Chn} {r k s t : Nat} {c : List Int} (h : TwoS x r k s t c) : c.length = r := h.1.len
theorem twoS_pos {x : Chn} {r k s t : Nat} : 0 < bothR x r k s t ↔ ∃ c, TwoS x r k s t c := bothR_pos x r k s t
theorem digs_one {b : Nat} {d : Nat} (h : d < b) : Digs b [(d : Int)] := by
  intro e he
  simp at he
  subst he
  omega
/-- Is there a list behind two states that begins so? -/
theorem two_next {x : Chn} {r k s t : Nat} {u : List Int} {d : Nat} (hu : Digs x.b u) (hd : d < x.b) (hl : u.length < r) :
    (∃ c, TwoS x r k s t c ∧ c.take (u.length + 1) = u ++ [(d : Int)]) ↔ 0 < bothR x (r - (u.length + 1)) (k + u.length + 1) (nxt x (k + u.length) (runN x k s u) d) (nxt x (k + u.length) (runN x k t u) d) := by
  rw [twoS_pos]
  have hru : ∀ s, runN x k s (u ++ [(d : Int)]) = nxt x (k + u.length) (runN x k s u) d := fun s => by rw [runN_snoc]; rfl
  have hlu : (u ++ [(d : Int)]).length = u.length + 1 := by simp
  constructor
  · rintro ⟨c, ⟨h1, h2⟩, e⟩
    rw [← List.take_append_drop (u.length + 1) c, e] at h1 h2
    have h3 := (leads_app (r := r - (u.length + 1)) (by rw [hlu]; omega)).1 h1
    have h4 := (leads_app (r := r - (u.length + 1)) (by rw [hlu]; omega)).1 h2
    rw [hru, hlu] at h3 h4
    exact ⟨_, h3.2, h4.2⟩
  · rintro ⟨c, h1, h2⟩
    have hdg : Digs x.b (u ++ [(d : Int)]) := digs_app.2 ⟨hu, digs_one hd⟩
    refine ⟨u ++ [(d : Int)] ++ c, ⟨(leads_app (r := r - (u.length + 1)) (by rw [hlu]; omega)).2 ⟨hdg, ?_⟩, (leads_app (r := r - (u.length + 1)) (by rw [hlu]; omega)).2 ⟨hdg, ?_⟩⟩, ?_⟩
    · rw [hru, hlu]; exact h1
    · rw [hru, hlu]; exact h2
    · rw [← hlu, List.take_left]
theorem GP.two {x : Chn} {r k s t : Nat} {u : List Int} {d : Nat} (hu : Digs x.b u) (hd : d < x.b) (hl : u.length < r) (h : GP (TwoS x r k s t) u)
    (h1 : 0 < bothR x (r - (u.length + 1)) (k + u.length + 1) (nxt x (k + u.length) (runN x k s u) d) (nxt x (k + u.length) (runN x k t u) d))
    (h2 : ∀ e, e < d → bothR x (r - (u.length + 1)) (k + u.length + 1) (nxt x (k + u.length) (runN x k s u) e) (nxt x (k + u.length) (runN x k t u) e) = 0) : GP (TwoS x r k s t) (u ++ [(d : Int)]) := by
  refine h.step (fun c hc => hc.len) hl ((two_next hu hd hl).2 h1) fun c hc e hlt => ?_
  have hcl := hc.len
  have h3 := hc.1.dig (nth c u.length) (nth_mem (by omega))
  obtain ⟨z, hz⟩ := Int.eq_ofNat_of_zero_le h3.1
  have hz2 : z < d := by omega
  have h4 := (two_next (x := x) (r := r) (k := k) (s := s) (t := t) hu (show z < x.b by omega) hl).1 ⟨c, hc, by rw [take_nth (by omega), e, hz]⟩
  have := h2 z hz2
  omega
/-- There is a next symbol. -/
theorem GP.more {x : Chn} {r k s t : Nat} {u : List Int} (hl : u.length < r) (h : GP (TwoS x r k s t) u) : ∃ d, d < x.b ∧ 0 < bothR x (r - (u.length + 1)) (k + u.length + 1) (nxt x (k + u.length) (runN x k s u) d) (nxt x (k + u.length) (runN x k t u) d) := by
  obtain ⟨⟨c, hc, e⟩, _⟩ := h
  have hcl := hc.len
  have h3 := hc.1.dig (nth c u.length) (nth_mem (by omega))
  obtain ⟨z, hz⟩ := Int.eq_ofNat_of_zero_le h3.1
  have hu : Digs x.b u := by rw [← e]; exact fun d hd => hc.1.dig d (List.mem_of_mem_take hd)
  exact ⟨z, by omega, (two_next (x := x) (r := r) (k := k) (s := s) (t := t) hu (show z < x.b by omega) hl).1 ⟨c, hc, by rw [take_nth (by omega), e, hz]⟩⟩
theorem GP.digs {x : Chn} {r k s t : Nat} {u : List Int} (h : GP (TwoS x r k s t) u) : Digs x.b u := by
  obtain ⟨⟨c, hc, e⟩, _⟩ := h
  rw [← e]; exact fun d hd => hc.1.dig d (List.mem_of_mem_take hd)

/-! ### All lists in order -/
theorem tup_lex {b : Nat} (hb : 1 ≤ b) : ∀ n i j, i < b ^ n → j < b ^ n → lexL (tup b n i) (tup b n j) = decide (i < j)
  | 0, i, j, hi, hj => by
    simp at hi hj
    subst hi hj
    rfl
  | n + 1, i, j, hi, hj => by
    have hi2 : i / b < b ^ n := Nat.div_lt_of_lt_mul (by rw [Nat.mul_comm, ← Nat.pow_succ]; exact hi)
    have hj2 : j / b < b ^ n := Nat.div_lt_of_lt_mul (by rw [Nat.mul_comm, ← Nat.pow_succ]; exact hj)
    have ei := Nat.div_add_mod i b
    have ej := Nat.div_add_mod j b
    have mi := Nat.mod_lt i hb
    have mj := Nat.mod_lt j hb
    have ih := tup_lex hb n (i / b) (j / b) hi2 hj2
    have ih' := tup_lex hb n (j / b) (i / b) hj2 hi2
    unfold tup
    rw [lexL_app _ _ (by rw [tup_length, tup_length]), ih]
    generalize i % b = I at *
    generalize j % b = J at *
    rcases Nat.lt_trichotomy (i / b) (j / b) with h | h | h
    · have : i < j := by
        have h1 : b * (i / b + 1) ≤ b * (j / b) := Nat.mul_le_mul_left b h
        rw [Nat.mul_add] at h1
        omega
      simp [h, this]
    · rw [h]
      have e : (i < j) ↔ (I < J) := by
        rw [h] at ei
        omega
      have e2 : lexL [(I : Int)] [(J : Int)] = decide (I < J) := by
        rw [lexL_cons]
        simp [lexL]
      simp [e2, e]
    · have h1 : ¬ i < j := by
        have h1 : b * (j / b + 1) ≤ b * (i / b) := Nat.mul_le_mul_left b h
        rw [Nat.mul_add] at h1
        omega
      have h2 : tup b n (i / b) ≠ tup b n (j / b) := fun e => by
        rw [e, lexL_irr] at ih'
        simp at ih'
        omega
      have h3 : ¬ i / b < j / b := by omega
      simp [h1, h2, h3]
theorem tup_onto {b : Nat} : ∀ n (f : List Int), f.length = n → Digs b f → ∃ i, i < b ^ n ∧ tup b n i = f
  | 0, f, h, _ => ⟨0, by simp, by rw [List.length_eq_zero_iff.1 h]; rfl⟩
  | n + 1, f, h, hd => by
    have hne : f ≠ [] := fun e => by rw [e] at h; simp at h
    have ef := List.dropLast_concat_getLast hne
    have hd1 : Digs b f.dropLast := fun d hd' => hd d (List.dropLast_subset _ hd')
    obtain ⟨i, hi, e⟩ := tup_onto n f.dropLast (by simp; omega) hd1
    have hl := hd _ (List.getLast_mem hne)
    obtain ⟨z, hz⟩ := Int.eq_ofNat_of_zero_le hl.1
    have hz2 : z < b := by omega
    have e1 : (i * b + z) / b = i := by
      rw [Nat.mul_comm, Nat.mul_add_div (by omega), Nat.div_eq_of_lt hz2]; omega
    have e2 : (i * b + z) % b = z := by rw [Nat.mul_comm, Nat.mul_add_mod, Nat.mod_eq_of_lt hz2]
    refine ⟨i * b + z, ?_, ?_⟩
    · rw [Nat.pow_succ]
      have : (i + 1) * b ≤ b ^ n * b := Nat.mul_le_mul_right b hi
      rw [Nat.add_mul] at this
      omega
    · unfold tup
      rw [e1, e2, e, ← hz]
      exact ef
/-- The errors of a kind: all that are there, in the order of what they change. -/
theorem wrong_mem {kind : Int} {b : Nat} (hb : 1 ≤ b) {q : List Int × List Int} : q ∈ wrongP kind b ↔ (q.1.length = errLen kind ∧ Digs b q.1) ∧ q.2 ∈ chg kind b q.1 := by
  unfold wrongP
  simp only [List.mem_flatMap, List.mem_range, List.mem_map]
  constructor
  · rintro ⟨i, hi, t, ht, rfl⟩
    exact ⟨⟨tup_length _ _ _, tup_digs hb _ _⟩, ht⟩
  · rintro ⟨⟨h1, h2⟩, h3⟩
    obtain ⟨i, hi, e⟩ := tup_onto _ _ h1 h2
    exact ⟨i, hi, q.2, by rw [e]; exact h3, by rw [e]⟩
theorem wrong_sorted {kind : Int} {b : Nat} (hb : 1 ≤ b) : (wrongP kind b).Pairwise fun q r => lexL r.1 q.1 = false := by
  unfold wrongP
  rw [List.pairwise_flatMap]
  refine ⟨fun i hi => ?_, ?_⟩
  · rw [List.pairwise_map]
    exact List.Pairwise.imp (fun _ => lexL_irr _) (List.pairwise_of_forall (R := fun _ _ => True) fun _ _ => trivial)
  · refine List.Pairwise.imp_of_mem ?_ List.pairwise_lt_range
    intro i j hi hj hij q hq r hr
    simp only [List.mem_map] at hq hr
    obtain ⟨_, _, rfl⟩ := hq
    obtain ⟨_, _, rfl⟩ := hr
    simp only
    rw [tup_lex hb _ _ _ (List.mem_range.1 hj) (List.mem_range.1 hi)]
    simp; omega
theorem wrong_le {kind : Int} {b : Nat} (hb : 1 ≤ b) {i j : Nat} (hij : i ≤ j) (hj : j < (wrongP kind b).length) : lexL (nth (wrongP kind b) j).1 (nth (wrongP kind b) i).1 = false := by
  rcases Nat.lt_or_ge i j with h | h
  · have := List.pairwise_iff_getElem.1 (wrong_sorted (kind := kind) hb) i j (by omega) hj h
    rw [nth_eq hj, nth_eq (show i < _ by omega)]
    exact this
  · obtain rfl : i = j := by omega
    exact lexL_irr _

/-! ### The fronts -/
structure Frn (x : Chn) (i : Nat) (L : List (List Int)) : Prop where
  all : ∀ u ∈ L, u.length = i ∧ Digs x.b u
  full : ∀ u, u.length = i → Digs x.b u → ∃ j, j < L.length ∧ runN x 0 x.start.toNat (nth L j) = runN x 0 x.start.toNat u ∧ lexL u (nth L j) = false
  rise : ∀ j k, j < k → k < L.length → lexL (nth L j) (nth L k) = true
theorem Frn.zero (x : Chn) : Frn x 0 [[]] := by
  refine ⟨fun u hu => ?_, fun u h1 _ => ⟨0, by simp, ?_⟩, fun j k h1 h2 => ?_⟩
  · simp at hu; subst hu; exact ⟨rfl, by simp [Digs]⟩
  · rw [List.length_eq_zero_iff.1 h1]; exact ⟨rfl, rfl⟩
  · simp at h2; omega
/-- The next front in the making: of L the first k, and of number k the symbols before d. -/
structure FrnP (x : Chn) (i : Nat) (L A : List (List Int)) (seen : List Bool) (k d : Nat) : Prop where
  mem : ∀ u ∈ A, ∃ j e, (j < k ∨ (j = k ∧ e < d)) ∧ j < L.length ∧ e < x.b ∧ u = nth L j ++ [(e : Int)]
  full : ∀ j e, (j < k ∨ (j = k ∧ e < d)) → j < L.length → e < x.b → ∃ m, m < A.length ∧ runN x 0 x.start.toNat (nth A m) = nxt x i (runN x 0 x.start.toNat (nth L j)) e ∧ lexL (nth L j ++ [(e : Int)]) (nth A m) = false
  rise : ∀ j k, j < k → k < A.length → lexL (nth A j) (nth A k) = true
  slen : seen.length = x.S
  mark : ∀ y, y < x.S → (nth seen y = true ↔ ∃ m, m < A.length ∧ runN x 0 x.start.toNat (nth A m) = y)
  cnt : A.length + seen.countP (· == false) ≤ x.S
section frn
variable {x : Chn} {i k d : Nat} {L A : List (List Int)} {seen : List Bool}
theorem FrnP.start (x : Chn) (i : Nat) (L : List (List Int)) : FrnP x i L [] (List.replicate x.S false) 0 0 := by
  refine ⟨fun u hu => by simp at hu, fun j e h => by omega, fun j k _ h => by simp at h, by simp, fun y hy => ?_, ?_⟩
  · rw [nth_replicate hy]; simp
  · have := List.countP_le_length (p := (· == false)) (l := List.replicate x.S false)
    simp at this ⊢
    exact this
theorem FrnP.next (hb : d = x.b) (h : FrnP x i L A seen k d) : FrnP x i L A seen (k + 1) 0 := by
  refine ⟨fun u hu => ?_, fun j e h1 h2 h3 => h.full j e ?_ h2 h3, h.rise, h.slen, h.mark, h.cnt⟩
  · obtain ⟨j, e, h1, h2⟩ := h.mem u hu
    exact ⟨j, e, by omega, h2⟩
  · omega
theorem FrnP.run (hL : Frn x i L) (hk : k < L.length) : runN x 0 x.start.toNat (nth L k ++ [(d : Int)]) = nxt x i (runN x 0 x.start.toNat (nth L k)) d := by
  rw [runN_snoc, (hL.all _ (nth_mem hk)).1, Nat.zero_add]; rfl
theorem FrnP.skip (hk : k < L.length) (hy : nth seen (nxt x i (runN x 0 x.start.toNat (nth L k)) d) = true) (hyS : nxt x i (runN x 0 x.start.toNat (nth L k)) d < x.S) (hL : Frn x i L) (h : FrnP x i L A seen k d) : FrnP x i L A seen k (d + 1) := by
  refine ⟨fun u hu => ?_, fun j e h1 h2 h3 => ?_, h.rise, h.slen, h.mark, h.cnt⟩
  · obtain ⟨j, e, h1, h2⟩ := h.mem u hu
    exact ⟨j, e, by omega, h2⟩
  · by_cases hn : j < k ∨ (j = k ∧ e < d)
    · exact h.full j e hn h2 h3
    · obtain ⟨rfl, rfl⟩ : j = k ∧ e = d := by omega
      obtain ⟨m, hm, e1⟩ := (h.mark _ hyS).1 hy
      refine ⟨m, hm, e1, ?_⟩
      obtain ⟨j', e', h4, h5, h6, h7⟩ := h.mem _ (nth_mem hm)
      rw [h7]
      refine lexL_no (by rw [(hL.all _ (nth_mem h2)).1, (hL.all _ (nth_mem h5)).1]) ?_ fun e2 => ?_
      · rcases h4 with h4 | ⟨rfl, _⟩
        · exact lexL_asym (hL.rise j' j h4 h2)
        · exact lexL_irr _
      · rcases h4 with h4 | ⟨rfl, h4⟩
        · have := hL.rise j' j h4 h2
          rw [e2, lexL_irr] at this
          exact absurd this (by decide)
        · exact lexL_gt (by omega) _ _
theorem FrnP.push (hk : k < L.length) (hd : d < x.b) (hy : nth seen (nxt x i (runN x 0 x.start.toNat (nth L k)) d) = false) (hyS : nxt x i (runN x 0 x.start.toNat (nth L k)) d < x.S) (hL : Frn x i L) (h : FrnP x i L A seen k d) :
    FrnP x i L (A ++ [nth L k ++ [(d : Int)]]) (seen.set (nxt x i (runN x 0 x.start.toNat (nth L k)) d) true) k (d + 1) := by
  have hrun := FrnP.run (d := d) hL hk
  have hlen : (A ++ [nth L k ++ [(d : Int)]]).length = A.length + 1 := by simp
  have hold : ∀ m, m < A.length → nth (A ++ [nth L k ++ [(d : Int)]]) m = nth A m := fun m hm => by
    rw [nth_eq (by omega), nth_eq hm, List.getElem_append_left]
  have hnew : nth (A ++ [nth L k ++ [(d : Int)]]) A.length = nth L k ++ [(d : Int)] := by
    rw [nth_eq (by omega), List.getElem_append_right (by omega)]; simp
  refine ⟨fun u hu => ?_, fun j e h1 h2 h3 => ?_, fun a c hac hc => ?_, by rw [List.length_set]; exact h.slen, fun y hyy => ?_, ?_⟩
  · rcases List.mem_append.1 hu with hu | hu
    · obtain ⟨j, e, h1, h2⟩ := h.mem u hu
      exact ⟨j, e, by omega, h2⟩
    · simp at hu
      exact ⟨k, d, by omega, hk, hd, hu⟩
  · by_cases hn : j < k ∨ (j = k ∧ e < d)
    · obtain ⟨m, hm, e1, e2⟩ := h.full j e hn h2 h3
      exact ⟨m, by omega, by rw [hold m hm]; exact e1, by rw [hold m hm]; exact e2⟩
    · obtain ⟨rfl, rfl⟩ : j = k ∧ e = d := by omega
      exact ⟨A.length, by omega, by rw [hnew]; exact hrun, by rw [hnew]; exact lexL_irr _⟩
  · by_cases hcA : c < A.length
    · rw [hold c hcA, hold a (by omega)]
      exact h.rise a c hac hcA
    · obtain rfl : c = A.length := by omega
      rw [hnew, hold a hac]
      obtain ⟨j', e', h4, h5, h6, h7⟩ := h.mem _ (nth_mem hac)
      rw [h7, lexL_app _ _ (by rw [(hL.all _ (nth_mem hk)).1, (hL.all _ (nth_mem h5)).1])]
      rcases h4 with h4 | ⟨rfl, h4⟩
      · rw [hL.rise j' k h4 hk]; rfl
      · rw [lexL_lt (by omega)]; simp
  · rw [nth_set (by rw [h.slen]; exact hyS)]
    by_cases e : nxt x i (runN x 0 x.start.toNat (nth L k)) d = y
    · rw [if_pos e]
      exact ⟨fun _ => ⟨A.length, by omega, by rw [hnew, hrun, e]⟩, fun _ => rfl⟩
    · rw [if_neg e, h.mark y hyy]
      constructor
      · rintro ⟨m, hm, e1⟩
        exact ⟨m, by omega, by rw [hold m hm]; exact e1⟩
      · rintro ⟨m, hm, e1⟩
        by_cases hmA : m < A.length
        · exact ⟨m, hmA, by rw [← hold m hmA]; exact e1⟩
        · obtain rfl : m = A.length := by omega
          rw [hnew, hrun] at e1
          exact absurd e1 e
  · have hys : nxt x i (runN x 0 x.start.toNat (nth L k)) d < seen.length := by rw [h.slen]; exact hyS
    have h1 := List.countP_set (p := (· == false)) (l := seen) (a := true) hys
    rw [nth_eq hys] at hy
    have h2 : 0 < seen.countP (· == false) := List.countP_pos_iff.2 ⟨_, List.getElem_mem hys, by rw [hy]; rfl⟩
    have h3 : (seen.set (nxt x i (runN x 0 x.start.toNat (nth L k)) d) true).countP (· == false) = seen.countP (· == false) - 1 := by rw [h1, hy]; simp
    have := h.cnt
    rw [h3, hlen]
    omega
theorem FrnP.done (hL : Frn x i L) (h : FrnP x i L A seen L.length 0) : Frn x (i + 1) A := by
  refine ⟨fun u hu => ?_, fun u h1 h2 => ?_, h.rise⟩
  · obtain ⟨j, e, h1, h2, h3, rfl⟩ := h.mem u hu
    have h4 := hL.all _ (nth_mem h2)
    exact ⟨by simp [h4.1], digs_app.2 ⟨h4.2, digs_one h3⟩⟩
  · have hne : u ≠ [] := fun e => by rw [e] at h1; simp at h1
    have eu := List.dropLast_concat_getLast hne
    have hl := h2 _ (List.getLast_mem hne)
    obtain ⟨z, hz⟩ := Int.eq_ofNat_of_zero_le hl.1
    have hz2 : z < x.b := by omega
    have hdl : u.dropLast.length = i := by simp; omega
    obtain ⟨j, hj, e1, e2⟩ := hL.full u.dropLast hdl (fun d hd => h2 d (List.dropLast_subset _ hd))
    obtain ⟨m, hm, e3, e4⟩ := h.full j z (.inl hj) hj hz2
    rw [hz] at eu
    refine ⟨m, hm, ?_, ?_⟩
    · have h5 := runN_snoc x 0 x.start.toNat u.dropLast (z : Int)
      rw [eu, hdl, Nat.zero_add] at h5
      rw [e3, e1, h5]; rfl
    · refine lexL_le e4 ?_
      have h5 : lexL (u.dropLast ++ [(z : Int)]) (nth L j ++ [(z : Int)]) = false := lexL_no (by rw [hdl, (hL.all _ (nth_mem hj)).1]) e2 fun _ => lexL_irr _
      rw [eu] at h5
      exact h5
theorem FrnP.lenS (h : FrnP x i L A seen k d) : A.length ≤ x.S := by have := h.cnt; omega
/-- The first front that can have an error is the least list before one. -/
theorem Frn.least {kind : Int} (hL : Frn x i L) (hk : k < L.length) (hc : canN x kind i (runN x 0 x.start.toNat (nth L k))) (hn : ∀ j, j < k → ¬ canN x kind i (runN x 0 x.start.toNat (nth L j))) : LeastL (PreS x kind i) (nth L k) := by
  have h1 := hL.all _ (nth_mem hk)
  refine ⟨⟨h1.1, h1.2, hc⟩, fun v hv => ?_⟩
  obtain ⟨j, hj, e1, e2⟩ := hL.full v hv.1 hv.2.1
  have h2 : ¬ j < k := fun h => hn j h (by rw [e1]; exact hv.2.2)
  rcases Nat.lt_or_ge k j with h3 | h3
  · exact lexL_le (lexL_asym (hL.rise k j h3 hj)) e2
  · obtain rfl : j = k := by omega
    exact e2
theorem Frn.none {kind : Int} (hL : Frn x i L) (hn : ∀ j, j < L.length → ¬ canN x kind i (runN x 0 x.start.toNat (nth L j))) : ∀ w, ¬ WrdS x kind i w := by
  rintro w ⟨v, a, f, t, c, hE, _, _⟩
  obtain ⟨j, hj, e1, _⟩ := hL.full a hE.la hE.da
  exact hn j hj (by rw [e1]; exact hE.can)
end frn
end Go.Proofs.Ytnpkanlieflbiaa
/- The first undetected error, plainly: one front in the reference's way. Nothing here walks. -/
namespace Go.Proofs.Ytnpkanlieflbiaa
open Go.RowKit
set_option linter.unusedVariables false

theorem ex_least {P : Nat → Prop} (h : ∃ n, P n) : ∃ n, P n ∧ ∀ m, m < n → ¬ P m := by
  obtain ⟨n, hn⟩ := h
  induction n using Nat.strongRecOn with
  | _ n ih =>
    by_cases h : ∃ m, m < n ∧ P m
    · obtain ⟨m, hm, hp⟩ := h; exact ih m hm hp
    · exact ⟨n, hn, fun m hm hp => h ⟨m, hm, hp⟩⟩
theorem two_least {x : Chn} {r k s t : Nat} (h : 0 < bothR x r k s t) : ∃ c, LeastL (TwoS x r k s t) c := by
  obtain ⟨c0, hc0⟩ := twoS_pos.1 h
  have hi : ∀ i, i ≤ r → ∃ u : List Int, u.length = i ∧ GP (TwoS x r k s t) u := fun i => by
    induction i with
    | zero => exact fun _ => ⟨[], rfl, GP.nil hc0⟩
    | succ i ih =>
      intro hir
      obtain ⟨u, hu, hg⟩ := ih (by omega)
      obtain ⟨d, ⟨hd, hp⟩, hm⟩ := ex_least (hg.more (by omega))
      refine ⟨u ++ [(d : Int)], by simp [hu], hg.two hg.digs hd (by omega) hp fun e he => ?_⟩
      rcases Nat.eq_zero_or_pos (bothR x (r - (u.length + 1)) (k + u.length + 1) (nxt x (k + u.length) (runN x k s u) e) (nxt x (k + u.length) (runN x k t u) e)) with h1 | h1
      · exact h1
      · exact absurd ⟨by omega, h1⟩ (hm e he)
  obtain ⟨u, hu, hg⟩ := hi r (Nat.le_refl _)
  exact ⟨u, hg.done (fun c hc => hc.len) hu⟩
/-- The least list behind an error. -/
def TailS (x : Chn) (kind : Int) (p s : Nat) (q : List Int × List Int) (c : List Int) : Prop := LeastL (TwoS x (x.n - (p + errLen kind)) (p + errLen kind) (runN x p s q.1) (runN x p s q.2)) c
abbrev WQn (x : Chn) (kind : Int) : List (List Int × List Int) := wrongP kind x.b
def goodQ (x : Chn) (kind : Int) (p s : Nat) (q : List Int × List Int) : Prop := goodN x kind p s q.1 q.2
def InN (x : Chn) (kind : Int) (p s k : Nat) : Prop := ∀ j, j < k → ¬ goodQ x kind p s (nth (WQn x kind) j)
structure InS (x : Chn) (kind : Int) (p s : Nat) (a : List Int) (k : Nat) (w v : List Int) : Prop where
  pos : 1 ≤ k
  one : ∀ j, j < k → goodQ x kind p s (nth (WQn x kind) j) → (nth (WQn x kind) j).1 = (nth (WQn x kind) (k - 1)).1
  att : ∃ j c, j < k ∧ goodQ x kind p s (nth (WQn x kind) j) ∧ TailS x kind p s (nth (WQn x kind) j) c ∧ w = a ++ ((nth (WQn x kind) j).1 ++ c) ∧ v = a ++ ((nth (WQn x kind) j).2 ++ c)
  min : ∀ j c, j < k → goodQ x kind p s (nth (WQn x kind) j) → TailS x kind p s (nth (WQn x kind) j) c → lexL (a ++ ((nth (WQn x kind) j).1 ++ c)) w = false ∧ (a ++ ((nth (WQn x kind) j).1 ++ c) = w → lexL (a ++ ((nth (WQn x kind) j).2 ++ c)) v = false)
section ins
variable {x : Chn} {kind : Int} {p s k : Nat} {a w v c : List Int}
theorem InN.zero (x : Chn) (kind : Int) (p s : Nat) : InN x kind p s 0 := fun j h => absurd h (Nat.not_lt_zero _)
theorem InN.no (h : InN x kind p s k) (h1 : ¬ goodQ x kind p s (nth (WQn x kind) k)) : InN x kind p s (k + 1) := fun j hj => by
  rcases Nat.lt_succ_iff_lt_or_eq.1 hj with h2 | rfl
  · exact h j h2
  · exact h1
theorem InN.yes (h : InN x kind p s k) (a : List Int) (h1 : goodQ x kind p s (nth (WQn x kind) k)) (h2 : TailS x kind p s (nth (WQn x kind) k) c) :
    InS x kind p s a (k + 1) (a ++ ((nth (WQn x kind) k).1 ++ c)) (a ++ ((nth (WQn x kind) k).2 ++ c)) := by
  refine ⟨by omega, fun j hj hg => ?_, ⟨k, c, by omega, h1, h2, rfl, rfl⟩, fun j c' hj hg ht => ?_⟩
  · rcases Nat.lt_succ_iff_lt_or_eq.1 hj with h3 | rfl
    · exact absurd hg (h j h3)
    · rfl
  · rcases Nat.lt_succ_iff_lt_or_eq.1 hj with h3 | rfl
    · exact absurd hg (h j h3)
    · obtain rfl := ht.eq h2
      exact ⟨lexL_irr _, fun _ => lexL_irr _⟩
theorem InS.no (h : InS x kind p s a k w v) (hs : (nth (WQn x kind) k).1 = (nth (WQn x kind) (k - 1)).1) (h1 : ¬ goodQ x kind p s (nth (WQn x kind) k)) : InS x kind p s a (k + 1) w v := by
  refine ⟨by omega, fun j hj hg => ?_, ?_, fun j c' hj hg ht => ?_⟩
  · rcases Nat.lt_succ_iff_lt_or_eq.1 hj with h3 | rfl
    · rw [h.one j h3 hg]; exact hs.symm
    · exact absurd hg h1
  · obtain ⟨j, c, hj, h2⟩ := h.att
    exact ⟨j, c, by omega, h2⟩
  · rcases Nat.lt_succ_iff_lt_or_eq.1 hj with h3 | rfl
    · exact h.min j c' h3 hg ht
    · exact absurd hg h1
theorem InS.yes (h : InS x kind p s a k w v) (hs : (nth (WQn x kind) k).1 = (nth (WQn x kind) (k - 1)).1) (h1 : goodQ x kind p s (nth (WQn x kind) k)) (h2 : TailS x kind p s (nth (WQn x kind) k) c)
    {u y : List Int} (hu : u = a ++ ((nth (WQn x kind) k).1 ++ c)) (hy : y = a ++ ((nth (WQn x kind) k).2 ++ c)) :
    InS x kind p s a (k + 1) (if lexL u w = true ∨ u = w ∧ lexL y v = true then u else w) (if lexL u w = true ∨ u = w ∧ lexL y v = true then y else v) := by
  have hone : ∀ j, j < k + 1 → goodQ x kind p s (nth (WQn x kind) j) → (nth (WQn x kind) j).1 = (nth (WQn x kind) (k + 1 - 1)).1 := fun j hj hg => by
    rcases Nat.lt_succ_iff_lt_or_eq.1 hj with h3 | rfl
    · rw [h.one j h3 hg]; exact hs.symm
    · rfl
  by_cases hc : lexL u w = true ∨ u = w ∧ lexL y v = true
  · rw [if_pos hc, if_pos hc]
    refine ⟨by omega, hone, ⟨k, c, by omega, h1, h2, hu, hy⟩, fun j c' hj hg ht => ?_⟩
    rcases Nat.lt_succ_iff_lt_or_eq.1 hj with h3 | rfl
    · obtain ⟨h4, h5⟩ := h.min j c' h3 hg ht
      rcases hc with h6 | ⟨h6, h7⟩
      · refine ⟨lexL_le (lexL_asym h6) h4, fun e => ?_⟩
        rw [← e] at h6
        rw [h4] at h6
        exact absurd h6 (by decide)
      · subst h6
        exact ⟨h4, fun e => lexL_le (lexL_asym h7) (h5 e)⟩
    · obtain rfl := ht.eq h2
      rw [← hu, ← hy]
      exact ⟨lexL_irr _, fun _ => lexL_irr _⟩
  · rw [if_neg hc, if_neg hc]
    refine ⟨by omega, hone, ?_, fun j c' hj hg ht => ?_⟩
    · obtain ⟨j, c, hj, h3⟩ := h.att
      exact ⟨j, c, by omega, h3⟩
    · rcases Nat.lt_succ_iff_lt_or_eq.1 hj with h3 | rfl
      · exact h.min j c' h3 hg ht
      · obtain rfl := ht.eq h2
        rw [← hu, ← hy]
        refine ⟨?_, fun e => ?_⟩
        · cases h4 : lexL u w
          · rfl
          · exact absurd (.inl h4) hc
        · cases h4 : lexL y v
          · rfl
          · exact absurd (.inr ⟨e, h4⟩) hc
/-- The symbols turn, or there are no more: the least error at this place. -/
theorem InS.done (hb : 1 ≤ x.b) (h : InS x kind p s a k w v) (hk : k ≤ (WQn x kind).length) (ha : LeastL (PreS x kind p) a) (hrs : runN x 0 x.start.toNat a = s)
    (hend : k = (WQn x kind).length ∨ (nth (WQn x kind) k).1 ≠ (nth (WQn x kind) (k - 1)).1) : At2 x kind p w v := by
  subst hrs
  have hk' : k ≤ (wrongP kind x.b).length := hk
  obtain ⟨j, c, hj, hg, ht, rfl, rfl⟩ := h.att
  obtain ⟨Q, hQ⟩ : ∃ q, q = nth (WQn x kind) j := ⟨_, rfl⟩
  have hQ1 : Q.1 = (nth (WQn x kind) (k - 1)).1 := by rw [hQ]; exact h.one j hj hg
  have hQm := (wrong_mem hb).1 (show nth (WQn x kind) j ∈ wrongP kind x.b from nth_mem (by omega))
  rw [← hQ] at hg ht hQm ⊢
  have hmin := h.min
  rw [← hQ] at hmin
  have hfind : ∀ t, t ∈ chg kind x.b Q.1 → goodN x kind p (runN x 0 x.start.toNat a) Q.1 t → ∃ i, i < k ∧ nth (WQn x kind) i = (Q.1, t) := fun t ht' hg' => by
    have h1 : (Q.1, t) ∈ wrongP kind x.b := (wrong_mem hb).2 ⟨hQm.1, ht'⟩
    obtain ⟨i, hi, e⟩ := List.mem_iff_getElem.1 h1
    refine ⟨i, ?_, by rw [nth_eq hi]; exact e⟩
    rcases Nat.lt_or_ge i k with h2 | h2
    · exact h2
    · exfalso
      rcases hend with h3 | h3
      · have : i < (WQn x kind).length := hi
        omega
      · have h4 := wrong_le (kind := kind) hb (i := k - 1) (j := k) (by omega) (by omega)
        have h5 := wrong_le (kind := kind) hb (i := k) (j := i) h2 hi
        have e2 : (nth (wrongP kind x.b) i).1 = (nth (WQn x kind) (k - 1)).1 := by rw [nth_eq hi, e, ← hQ1]
        rw [e2] at h5
        exact h3 (lexL_tri h4 h5)
  have hbest : ∀ t c', t ∈ chg kind x.b Q.1 → TwoS x (x.n - (p + errLen kind)) (p + errLen kind) (runN x p (runN x 0 x.start.toNat a) Q.1) (runN x p (runN x 0 x.start.toNat a) t) c' →
      ∃ c2, lexL c' c2 = false ∧ lexL c2 c = false ∧ (c2 = c → lexL (a ++ (t ++ c2)) (a ++ (Q.2 ++ c)) = false) := fun t c' ht' hc' => by
    have hg' : goodN x kind p (runN x 0 x.start.toNat a) Q.1 t := good_iff.2 ⟨c', hc'⟩
    obtain ⟨i, hi, e⟩ := hfind t ht' hg'
    obtain ⟨c2, h2⟩ := two_least (twoS_pos.2 ⟨c', hc'⟩)
    have h3 := hmin i c2 hi (by rw [e]; exact hg') (by rw [e]; exact h2)
    rw [e] at h3
    simp only [lexL_pre] at h3
    exact ⟨c2, h2.2 c' hc', h3.1, fun e1 => by rw [lexL_pre]; exact h3.2 (by rw [e1])⟩
  have hf : LeastL (FrmS x kind p (runN x 0 x.start.toNat a)) Q.1 := by
    refine ⟨⟨hQm.1.1, hQm.1.2, Q.2, hQm.2, hg⟩, ?_⟩
    rintro f ⟨h1, h2, t, h3, h4⟩
    have h5 : (f, t) ∈ wrongP kind x.b := (wrong_mem hb).2 ⟨⟨h1, h2⟩, h3⟩
    obtain ⟨i, hi, e⟩ := List.mem_iff_getElem.1 h5
    have e' : nth (wrongP kind x.b) i = (f, t) := by rw [nth_eq hi]; exact e
    rcases Nat.lt_or_ge i k with h6 | h6
    · have h7 := h.one i h6 (by show goodN x kind p _ (nth (wrongP kind x.b) i).1 (nth (wrongP kind x.b) i).2; rw [e']; exact h4)
      rw [e', ← hQ1] at h7
      rw [show f = Q.1 from h7]
      exact lexL_irr _
    · have h7 := wrong_le (kind := kind) hb (i := k - 1) (j := i) (by omega) hi
      rw [e', ← hQ1] at h7
      exact h7
  have hc : LeastL (BehS x kind p (runN x 0 x.start.toNat a) Q.1) c := by
    refine ⟨⟨Q.2, hQm.2, ht.1⟩, ?_⟩
    rintro c' ⟨t, h1, h2⟩
    obtain ⟨c2, h3, h4, _⟩ := hbest t c' h1 h2
    exact lexL_le h4 h3
  refine ⟨least_word ha hf hc, wrd_of ha.1 hf.1 hQm.2 ht.1.1 ht.1.2, fun v' hv' => ?_⟩
  obtain ⟨t, h1, rfl, hE⟩ := er_parts ha.1.1 hf.1.1 hv'
  obtain ⟨c2, h3, h4, h5⟩ := hbest t c h1 ⟨hE.c1, hE.c2⟩
  have e : c2 = c := lexL_tri h4 h3
  have := h5 e
  rw [e] at this
  exact this
theorem InN.done (hb : 1 ≤ x.b) (h : InN x kind p s (WQn x kind).length) : ¬ canN x kind p s := by
  rintro ⟨f, t, h1, h2, h3, h4⟩
  obtain ⟨i, hi, e⟩ := List.mem_iff_getElem.1 ((wrong_mem hb).2 ⟨⟨h1, h2⟩, h3⟩ : (f, t) ∈ wrongP kind x.b)
  refine h i hi ?_
  show goodN x kind p s (nth (wrongP kind x.b) i).1 (nth (wrongP kind x.b) i).2
  rw [nth_eq hi, e]; exact h4
theorem InS.can (hb : 1 ≤ x.b) (h : InS x kind p s a k w v) (hk : k ≤ (WQn x kind).length) : canN x kind p s := by
  have hk' : k ≤ (wrongP kind x.b).length := hk
  obtain ⟨j, c, hj, hg, _⟩ := h.att
  have := (wrong_mem hb).1 (show nth (WQn x kind) j ∈ wrongP kind x.b from nth_mem (by omega))
  exact ⟨_, _, this.1.1, this.1.2, this.2, hg⟩
end ins
end Go.Proofs.Ytnpkanlieflbiaa
