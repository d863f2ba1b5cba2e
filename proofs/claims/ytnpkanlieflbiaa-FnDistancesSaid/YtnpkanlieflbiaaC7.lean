/- The reference's search for the least distance, plainly: forwards, place by place. Nothing here walks. -/
import Derived.Test.YtnpkanlieflbiaaC6
import Derived.Test.YtnpkanlieflbiaaF1
namespace Go.Proofs.Ytnpkanlieflbiaa
open Go.RowKit
set_option linter.unusedVariables false

/-- The table of least distances and the states that are reached. -/
structure DSr where
  nx : List Int
  sm : List Bool
/-- What stands before for two states. -/
def befV (le : List Int) (eq : List Bool) (S r t : Nat) : Int := if r = t ∧ nth eq r = true then 0 else nth le (r * S + t)
def upE (x : Chn) (k : Nat) (le : List Int) (eq : List Bool) (far : Int) (r t d : Nat) (st : DSr) (e : Nat) : DSr :=
  ⟨if d ≠ e then st.nx.set (nxt x k r d * x.S + nxt x k t e) (min (nth st.nx (nxt x k r d * x.S + nxt x k t e)) (befV le eq x.S r t + 1))
    else if nth le (r * x.S + t) < far then st.nx.set (nxt x k r d * x.S + nxt x k t e) (min (nth st.nx (nxt x k r d * x.S + nxt x k t e)) (nth le (r * x.S + t))) else st.nx,
   if r = t ∧ nth eq r = true then st.sm.set (nxt x k r d) true else st.sm⟩
def upD (x : Chn) (k : Nat) (le : List Int) (eq : List Bool) (far : Int) (r t : Nat) (st : DSr) (d : Nat) : DSr := iterK (upE x k le eq far r t d) st x.b
def upT (x : Chn) (k : Nat) (le : List Int) (eq : List Bool) (far : Int) (r : Nat) (st : DSr) (t : Nat) : DSr := if befV le eq x.S r t = far then st else iterK (upD x k le eq far r t) st x.b
def upR (x : Chn) (k : Nat) (le : List Int) (eq : List Bool) (far : Int) (st : DSr) (r : Nat) : DSr := iterK (upT x k le eq far r) st x.S
def ds0 (S : Nat) (far : Int) : DSr := ⟨List.replicate (S * S) far, List.replicate S false⟩
def upK (x : Chn) (far : Int) (st : DSr) (k : Nat) : DSr := iterK (upR x k st.nx st.sm far) (ds0 x.S far) x.S
def dsAt (x : Chn) (k : Nat) : DSr := iterK (upK x ((x.n : Int) + 1)) ⟨List.replicate (x.S * x.S) ((x.n : Int) + 1), (List.replicate x.S false).set x.start.toNat true⟩ k

/-! ### What it holds -/
structure Reach (x : Chn) (k s : Nat) (u : List Int) : Prop where
  len : u.length = k
  dig : Digs x.b u
  run : runN x 0 x.start.toNat u = s
theorem Reach.snoc {x : Chn} {k s : Nat} {u : List Int} (h : Reach x k s u) {d : Nat} (hd : d < x.b) : Reach x (k + 1) (nxt x k s d) (u ++ [(d : Int)]) := by
  refine ⟨by simp [h.len], fun a ha => ?_, ?_⟩
  · rcases List.mem_append.1 ha with h1 | h1
    · exact h.dig a h1
    · simp at h1; subst h1; omega
  · rw [runN_snoc, h.run, h.len, Nat.zero_add]; rfl
theorem Reach.unsnoc {x : Chn} {k s : Nat} {u : List Int} (h : Reach x (k + 1) s u) : ∃ (u' : List Int) (d : Nat), d < x.b ∧ u = u' ++ [(d : Int)] ∧ Reach x k (runN x 0 x.start.toNat u') u' ∧ s = nxt x k (runN x 0 x.start.toNat u') d := by
  have hne : u ≠ [] := fun e => by have := h.len; rw [e] at this; simp at this
  obtain ⟨u', d, rfl⟩ : ∃ u' d, u = u' ++ [d] := ⟨u.dropLast, u.getLast hne, (List.dropLast_concat_getLast hne).symm⟩
  have hd := h.dig d (by simp)
  have hl : u'.length = k := by have := h.len; simpa using this
  have hr := h.run
  rw [runN_snoc, hl, Nat.zero_add] at hr
  refine ⟨u', d.toNat, by omega, by rw [show ((d.toNat : Nat) : Int) = d by omega], ⟨hl, fun a ha => h.dig a (by simp [ha]), rfl⟩, hr.symm⟩
theorem Reach.lt {x : Chn} (hv : VC x) {k s : Nat} {u : List Int} (h : Reach x k s u) (hk : k ≤ x.n) : s < x.S := by
  rw [← h.run]
  exact hv.runLt h.dig (by rw [h.len]; omega) hv.nat.2.2.1

/-- What is told of a state of the search holds words; the lengths are right. -/
structure Sound (x : Chn) (k : Nat) (far : Int) (st : DSr) : Prop where
  lenN : st.nx.length = x.S * x.S
  lenS : st.sm.length = x.S
  eq : ∀ s, s < x.S → nth st.sm s = true → ∃ u, Reach x k s u
  cap : ∀ i, i < x.S * x.S → nth st.nx i ≤ far ∧ 0 ≤ nth st.nx i
  get : ∀ p q, p < x.S → q < x.S → nth st.nx (p * x.S + q) < far → ∃ u v, Reach x k p u ∧ Reach x k q v ∧ u ≠ v ∧ (ham u v : Int) = nth st.nx (p * x.S + q)
theorem idx_ltC {S p q : Nat} (hp : p < S) (hq : q < S) : p * S + q < S * S := by
  have : (p + 1) * S ≤ S * S := Nat.mul_le_mul_right S hp
  rw [Nat.add_mul] at this
  omega
theorem idx_injC {S p q p' q' : Nat} (hq : q < S) (hq' : q' < S) (h : p * S + q = p' * S + q') : p = p' ∧ q = q' := by
  have h1 := congrArg (· / S) h
  have h2 := congrArg (· % S) h
  simp only [Nat.mul_comm _ S, Nat.mul_add_div (show S > 0 by omega), Nat.div_eq_of_lt hq, Nat.div_eq_of_lt hq', Nat.mul_add_mod, Nat.mod_eq_of_lt hq, Nat.mod_eq_of_lt hq'] at h1 h2
  omega
theorem Sound.put {x : Chn} {k : Nat} {far : Int} {st : DSr} (h : Sound x k far st) {p q : Nat} (hp : p < x.S) (hq : q < x.S) {z : Int} (h0 : 0 ≤ z) (hz : z < far → ∃ u v, Reach x k p u ∧ Reach x k q v ∧ u ≠ v ∧ (ham u v : Int) = z) :
    Sound x k far ⟨st.nx.set (p * x.S + q) (min (nth st.nx (p * x.S + q)) z), st.sm⟩ := by
  have hi := idx_ltC hp hq
  have hc := h.cap _ hi
  refine ⟨by simp [h.lenN], h.lenS, h.eq, fun i hi' => ?_, fun p' q' hp' hq' hlt => ?_⟩
  · show nth (st.nx.set _ _) i ≤ _ ∧ _
    rw [nth_set (by rw [h.lenN]; exact hi)]
    split
    · omega
    · exact h.cap i hi'
  · show ∃ u v, _ ∧ _ ∧ _ ∧ _ = nth (st.nx.set _ _) _
    change nth (st.nx.set _ _) _ < far at hlt
    rw [nth_set (by rw [h.lenN]; exact hi)] at hlt ⊢
    by_cases e : p * x.S + q = p' * x.S + q'
    · rw [if_pos e] at hlt ⊢
      obtain ⟨rfl, rfl⟩ := idx_injC hq hq' e
      rcases Int.le_total (nth st.nx (p * x.S + q)) z with h1 | h1
      · rw [Int.min_eq_left h1] at hlt ⊢; exact h.get p q hp hq hlt
      · rw [Int.min_eq_right h1] at hlt ⊢; exact hz hlt
    · rw [if_neg e] at hlt ⊢; exact h.get p' q' hp' hq' hlt
theorem Sound.mark {x : Chn} {k : Nat} {far : Int} {st : DSr} (h : Sound x k far st) {p : Nat} (hp : p < x.S) (hz : ∃ u, Reach x k p u) : Sound x k far ⟨st.nx, st.sm.set p true⟩ := by
  refine ⟨h.lenN, by simp [h.lenS], fun s hs he => ?_, h.cap, h.get⟩
  change nth (st.sm.set p true) s = true at he
  rw [nth_set (by rw [h.lenS]; exact hp)] at he
  by_cases e : p = s
  · subst e; exact hz
  · rw [if_neg e] at he; exact h.eq s hs he

/-- One state of the search is below another. -/
structure Down (x : Chn) (a b : DSr) : Prop where
  lenN : b.nx.length = a.nx.length
  lenS : b.sm.length = a.sm.length
  le : ∀ i, nth b.nx i ≤ nth a.nx i
  eq : ∀ s, nth a.sm s = true → nth b.sm s = true
theorem Down.refl (x : Chn) (a : DSr) : Down x a a := ⟨rfl, rfl, fun _ => Int.le_refl _, fun _ h => h⟩
theorem Down.trans {x : Chn} {a b c : DSr} (h : Down x a b) (h' : Down x b c) : Down x a c := ⟨h'.lenN.trans h.lenN, h'.lenS.trans h.lenS, fun i => Int.le_trans (h'.le i) (h.le i), fun s hs => h'.eq s (h.eq s hs)⟩
theorem iterK_down {x : Chn} {f : DSr → Nat → DSr} (h : ∀ a i, Down x a (f a i)) (a : DSr) : ∀ n, Down x a (iterK f a n)
  | 0 => Down.refl x a
  | n + 1 => (iterK_down h a n).trans (h _ n)
theorem iterK_down2 {x : Chn} {f : DSr → Nat → DSr} (h : ∀ a i, Down x a (f a i)) (a : DSr) {j : Nat} : ∀ {n : Nat}, j ≤ n → Down x (iterK f a j) (iterK f a n)
  | 0, hj => by obtain rfl : j = 0 := by omega
                exact Down.refl x _
  | n + 1, hj => by
    by_cases e : j = n + 1
    · subst e; exact Down.refl x _
    · exact (iterK_down2 h a (show j ≤ n by omega)).trans (h _ n)
theorem min_down (l : List Int) (i : Nat) (z : Int) (j : Nat) : nth (l.set i (min (nth l i) z)) j ≤ nth l j := by
  by_cases h : i < l.length
  · rw [nth_set h]
    split
    · rename_i e; subst e; omega
    · exact Int.le_refl _
  · rw [List.set_eq_of_length_le (by omega)]; exact Int.le_refl _
theorem mark_up (l : List Bool) (i j : Nat) (h : nth l j = true) : nth (l.set i true) j = true := by
  by_cases hi : i < l.length
  · rw [nth_set hi]
    split
    · rfl
    · exact h
  · rw [List.set_eq_of_length_le (by omega)]; exact h
theorem upE_down (x : Chn) (k : Nat) (le : List Int) (eq : List Bool) (far : Int) (r t d : Nat) (st : DSr) (e : Nat) : Down x st (upE x k le eq far r t d st e) := by
  refine ⟨?_, ?_, fun i => ?_, fun s hs => ?_⟩
  · unfold upE; simp only; split
    · simp
    · split <;> simp
  · unfold upE; simp only; split <;> simp
  · unfold upE; simp only; split
    · exact min_down _ _ _ _
    · split
      · exact min_down _ _ _ _
      · exact Int.le_refl _
  · unfold upE; simp only; split
    · exact mark_up _ _ _ hs
    · exact hs
theorem upD_down (x : Chn) (k : Nat) (le : List Int) (eq : List Bool) (far : Int) (r t : Nat) (st : DSr) (d : Nat) : Down x st (upD x k le eq far r t st d) := iterK_down (upE_down x k le eq far r t d) st _
theorem upT_down (x : Chn) (k : Nat) (le : List Int) (eq : List Bool) (far : Int) (r : Nat) (st : DSr) (t : Nat) : Down x st (upT x k le eq far r st t) := by
  unfold upT
  split
  · exact Down.refl x _
  · exact iterK_down (upD_down x k le eq far r t) st _
theorem upR_down (x : Chn) (k : Nat) (le : List Int) (eq : List Bool) (far : Int) (st : DSr) (r : Nat) : Down x st (upR x k le eq far st r) := iterK_down (upT_down x k le eq far r) st _

/-- One update is below its cost. -/
theorem up_cost (x : Chn) (k : Nat) (le : List Int) (eq : List Bool) (far : Int) (st : DSr) {r t d e : Nat} (hr : r < x.S) (ht : t < x.S) (hd : d < x.b) (he : e < x.b) (hb : befV le eq x.S r t ≠ far) :
    ∃ a, Down x st a ∧ Down x (upE x k le eq far r t d a e) (iterK (upR x k le eq far) st x.S) := by
  have h1 := iterK_down (upR_down x k le eq far) st r
  have h2 := iterK_down2 (upR_down x k le eq far) st (show r + 1 ≤ x.S by omega)
  have h3 := iterK_down (upT_down x k le eq far r) (iterK (upR x k le eq far) st r) t
  have h4 := iterK_down2 (upT_down x k le eq far r) (iterK (upR x k le eq far) st r) (show t + 1 ≤ x.S by omega)
  refine ⟨iterK (upE x k le eq far r t d) (iterK (upD x k le eq far r t) (iterK (upT x k le eq far r) (iterK (upR x k le eq far) st r) t) d) e, ?_, ?_⟩
  · exact h1.trans (h3.trans ((iterK_down (upD_down x k le eq far r t) _ d).trans (iterK_down (upE_down x k le eq far r t d) _ e)))
  · refine Down.trans ?_ h2
    refine Down.trans ?_ h4
    show Down x _ (upT x k le eq far r (iterK (upT x k le eq far r) (iterK (upR x k le eq far) st r) t) t)
    rw [upT, if_neg hb]
    refine Down.trans ?_ (iterK_down2 (upD_down x k le eq far r t) _ (show d + 1 ≤ x.b by omega))
    exact iterK_down2 (upE_down x k le eq far r t d) _ (show e + 1 ≤ x.b by omega)

/-- All words are told of. -/
structure Full (x : Chn) (k : Nat) (st : DSr) : Prop where
  eq : ∀ s u, Reach x k s u → nth st.sm s = true
  le : ∀ p q u v, Reach x k p u → Reach x k q v → u ≠ v → nth st.nx (p * x.S + q) ≤ ham u v

theorem upK_sound {x : Chn} (hv : VC x) {k : Nat} (hk : k < x.n) {far : Int} (hf : far = (x.n : Int) + 1) {st : DSr} (h : Sound x k far st) : Sound x (k + 1) far (upK x far st k) := by
  have hS := hv.nat
  have h0 : Sound x (k + 1) far (ds0 x.S far) := by
    refine ⟨by simp [ds0], by simp [ds0], fun s hs he => ?_, fun i hi => ?_, fun p q hp hq hlt => ?_⟩
    · simp only [ds0, nth_replicate hs] at he; exact absurd he (by simp)
    · simp only [ds0, nth_replicate hi]; omega
    · simp only [ds0, nth_replicate (idx_ltC hp hq)] at hlt; omega
  refine iterK_inv (fun _ a => Sound x (k + 1) far a) h0 (fun a r hr ha => ?_) _ (Nat.le_refl _)
  refine iterK_inv (fun _ a => Sound x (k + 1) far a) ha (fun a t ht ha => ?_) _ (Nat.le_refl _)
  unfold upT
  split
  · exact ha
  rename_i hb
  refine iterK_inv (fun _ a => Sound x (k + 1) far a) ha (fun a d hd ha => ?_) _ (Nat.le_refl _)
  refine iterK_inv (fun _ a => Sound x (k + 1) far a) ha (fun a e he ha => ?_) _ (Nat.le_refl _)
  have hn1 := (hv.cellN hk hr hd).2
  have hn2 := (hv.cellN hk ht he).2
  have hcap := h.cap _ (idx_ltC hr ht)
  have hbz : 0 ≤ befV st.nx st.sm x.S r t := by unfold befV; split <;> omega
  have hput : Sound x (k + 1) far ⟨(upE x k st.nx st.sm far r t d a e).nx, a.sm⟩ := by
    unfold upE
    simp only
    split
    · rename_i hde
      refine ha.put hn1 hn2 (by omega) fun hlt => ?_
      by_cases c : r = t ∧ nth st.sm r = true
      · obtain ⟨u, hu⟩ := h.eq r hr c.2
        refine ⟨_, _, hu.snoc hd, (c.1 ▸ hu).snoc he, fun h => hde (by have h2 := List.append_inj' h rfl; have h3 := h2.2; simp only [List.cons.injEq, and_true] at h3; omega), ?_⟩
        rw [ham_snoc rfl, ham_self, if_neg (by omega), befV, if_pos c]
        rfl
      · rw [befV, if_neg c] at hlt ⊢
        obtain ⟨u, v, hu, hv', hne, hm⟩ := h.get r t hr ht (by omega)
        refine ⟨_, _, hu.snoc hd, hv'.snoc he, fun h => hde (by have h2 := List.append_inj' h rfl; have h3 := h2.2; simp only [List.cons.injEq, and_true] at h3; omega), ?_⟩
        rw [ham_snoc (hu.len.trans hv'.len.symm), if_neg (by omega), ← hm]
        rfl
    · rename_i hde
      have hde : d = e := by simpa using hde
      subst hde
      split
      · rename_i hlf
        refine ha.put hn1 hn2 (by omega) fun hlt => ?_
        obtain ⟨u, v, hu, hv', hne, hm⟩ := h.get r t hr ht hlf
        refine ⟨_, _, hu.snoc hd, hv'.snoc hd, fun h => hne (by have := List.append_inj' h rfl; exact this.1), ?_⟩
        rw [ham_snoc (hu.len.trans hv'.len.symm), if_pos rfl, ← hm]
        rfl
      · exact ha
  show Sound x (k + 1) far ⟨_, if r = t ∧ nth st.sm r = true then a.sm.set (nxt x k r d) true else a.sm⟩
  by_cases c : r = t ∧ nth st.sm r = true
  · rw [if_pos c]
    obtain ⟨u, hu⟩ := h.eq r hr c.2
    exact hput.mark hn1 ⟨_, hu.snoc hd⟩
  · rw [if_neg c]; exact hput

theorem upK_full {x : Chn} (hv : VC x) {k : Nat} (hk : k < x.n) {far : Int} (hf : far = (x.n : Int) + 1) {st : DSr} (hs : Sound x k far st) (h : Full x k st) : Full x (k + 1) (upK x far st k) := by
  have hS := hv.nat
  have hfin := upK_sound hv hk hf hs
  refine ⟨fun s u hu => ?_, fun p q u v hu hw hne => ?_⟩
  · obtain ⟨u', d, hd, rfl, hu', rfl⟩ := hu.unsnoc
    have hr := hu'.lt hv (by omega)
    have he := h.eq _ _ hu'
    generalize runN x 0 x.start.toNat u' = r at *
    have hb : befV st.nx st.sm x.S r r ≠ far := by rw [befV, if_pos ⟨rfl, he⟩]; omega
    obtain ⟨a, ha, hdn⟩ := up_cost x k st.nx st.sm far (ds0 x.S far) (e := d) hr hr hd hd hb
    refine hdn.eq _ ?_
    show nth (if r = r ∧ nth st.sm r = true then a.sm.set (nxt x k r d) true else a.sm) _ = true
    have hlt := (hv.cellN hk hr hd).2
    rw [if_pos ⟨rfl, he⟩, nth_set (by rw [ha.lenS]; simp only [ds0, List.length_replicate]; exact hlt), if_pos rfl]
  · obtain ⟨u', d, hd, rfl, hu', rfl⟩ := hu.unsnoc
    obtain ⟨v', e, he, rfl, hv', rfl⟩ := hw.unsnoc
    have hr := hu'.lt hv (by omega)
    have ht := hv'.lt hv (by omega)
    have hue := h.eq _ _ hu'
    have hle := h.le _ _ _ _ hu' hv'
    have hh := ham_le u' v'
    rw [hu'.len] at hh
    rw [ham_snoc (hu'.len.trans hv'.len.symm)]
    have hrt : u' = v' → runN x 0 x.start.toNat u' = runN x 0 x.start.toNat v' := fun h => by rw [h]
    generalize runN x 0 x.start.toNat u' = r at *
    generalize runN x 0 x.start.toNat v' = t at *
    have hb1 : befV st.nx st.sm x.S r t ≤ ham u' v' := by
      unfold befV
      by_cases c : r = t ∧ nth st.sm r = true
      · rw [if_pos c]; omega
      · rw [if_neg c]
        exact hle fun hE => c ⟨hrt hE, hue⟩
    have hb : befV st.nx st.sm x.S r t ≠ far := by omega
    obtain ⟨a, ha, hdn⟩ := up_cost x k st.nx st.sm far (ds0 x.S far) hr ht hd he hb
    have hi := idx_ltC (hv.cellN hk hr hd).2 (hv.cellN hk ht he).2
    have hal : a.nx.length = x.S * x.S := by rw [ha.lenN]; simp [ds0]
    refine Int.le_trans (hdn.le _) ?_
    unfold upE
    simp only
    by_cases hde : d = e
    · subst hde
      have hne' : u' ≠ v' := fun h => hne (by rw [h])
      have := hle hne'
      rw [if_neg (by simp), if_pos (by omega), nth_set (by rw [hal]; exact hi), if_pos rfl, if_pos rfl]
      omega
    · rw [if_pos hde, nth_set (by rw [hal]; exact hi), if_pos rfl, if_neg (by omega)]
      omega

theorem ds_ok {x : Chn} (hv : VC x) : ∀ k, k ≤ x.n → Sound x k ((x.n : Int) + 1) (dsAt x k) ∧ Full x k (dsAt x k)
  | 0, _ => by
    have hS := hv.nat
    refine ⟨⟨by simp [dsAt, iterK], by simp [dsAt, iterK], fun s hs he => ?_, fun i hi => ?_, fun p q hp hq hlt => ?_⟩, fun s u hu => ?_, fun p q u v hu hw hne => ?_⟩
    · simp only [dsAt, iterK] at he
      rw [nth_set (by simpa using hS.2.2.1)] at he
      by_cases e : x.start.toNat = s
      · exact ⟨[], rfl, by simp [Digs], e⟩
      · rw [if_neg e, nth_replicate hs] at he; exact absurd he (by simp)
    · simp only [dsAt, iterK, nth_replicate hi]; omega
    · simp only [dsAt, iterK, nth_replicate (idx_ltC hp hq)] at hlt; omega
    · have : u = [] := List.length_eq_zero_iff.1 hu.len
      subst this
      have h1 := hu.run
      simp only [runN] at h1
      subst h1
      simp only [dsAt, iterK]
      rw [nth_set (by simpa using hS.2.2.1), if_pos rfl]
    · exact absurd ((List.length_eq_zero_iff.1 hu.len).trans (List.length_eq_zero_iff.1 hw.len).symm) hne
  | k + 1, hk => by
    obtain ⟨h1, h2⟩ := ds_ok hv k (by omega)
    exact ⟨upK_sound hv (by omega) rfl h1, upK_full hv (by omega) rfl h1 h2⟩
theorem reach_ckd {x : Chn} {u : List Int} : Reach x x.n x.stop.toNat u ↔ Ckd x u := ⟨fun ⟨a, b, c⟩ => ⟨a, b, c⟩, fun ⟨a, b, c⟩ => ⟨a, b, c⟩⟩
/-- What the reference tells. -/
def distS (x : Chn) : Int := nth (dsAt x x.n).nx (x.stop.toNat * x.S + x.stop.toNat)
theorem distS_two {x : Chn} (hv : VC x) : distS x ≠ (x.n : Int) + 1 ↔ TwoW x := by
  obtain ⟨h1, h2⟩ := ds_ok hv x.n (Nat.le_refl _)
  have hst := hv.nat.2.2.2.1
  have hc := h1.cap _ (idx_ltC hst hst)
  constructor
  · intro h
    obtain ⟨u, v, a, b, c, _⟩ := h1.get _ _ hst hst (by unfold distS at h; omega)
    exact ⟨u, v, reach_ckd.1 a, reach_ckd.1 b, c⟩
  · rintro ⟨u, v, a, b, c⟩
    have := h2.le _ _ _ _ (reach_ckd.2 a) (reach_ckd.2 b) c
    have hh := ham_le u v
    rw [a.len] at hh
    unfold distS
    omega
theorem dist_agree {x : Chn} (hv : VC x) (h : distI x < farN) : distS x = (distI x : Int) := by
  obtain ⟨h1, h2⟩ := ds_ok hv x.n (Nat.le_refl _)
  have hst := hv.nat.2.2.2.1
  have hc := h1.cap _ (idx_ltC hst hst)
  have hne := (distS_two hv).2 ((distI_two hv.nat.2.2.2.2.2).1 h)
  obtain ⟨u, v, a, b, c, d⟩ := h1.get _ _ hst hst (by unfold distS at hne; omega)
  have hd : IsDist x (ham u v) := ⟨⟨u, v, reach_ckd.1 a, reach_ckd.1 b, c, rfl⟩, fun u' v' a' b' c' => by
    have := h2.le _ _ _ _ (reach_ckd.2 a') (reach_ckd.2 b') c'
    omega⟩
  have := hd.eq (distI_is h)
  unfold distS
  omega
end Go.Proofs.Ytnpkanlieflbiaa
