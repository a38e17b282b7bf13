/-
  Ordinals: how they are compared, which are good, by the program and by its specification. Conditions: none.
-/
import Derived.Test.YtcaemkcglflmnaaDoorPlB
namespace Go.Proofs.YtcaemkcglflmnaaDoor.Vm
open Go Go.Proofs Go.RowKit
set_option linter.unusedVariables false
set_option linter.unusedSimpArgs false

def cmpI (a b : Int) : Int := if a < b then -1 else if a > b then 1 else 0
mutual
def tcmp : T_rI → T_rI → Int
  | .mk e c, u => if ocmp e u.c0 = 0 then cmpI c u.c1 else ocmp e u.c0
def ocmp : List T_rI → List T_rI → Int
  | [], [] => 0
  | [], _ :: _ => -1
  | _ :: _, [] => 1
  | t :: l, u :: m => if tcmp t u = 0 then ocmp l m else tcmp t u
end
theorem tcmp_eq (t u : T_rI) : tcmp t u = if ocmp t.c0 u.c0 = 0 then cmpI t.c1 u.c1 else ocmp t.c0 u.c0 := by
  cases t with
  | mk e c => simp only [tcmp]; rfl
theorem compare_ok (a b : Int) : n_impl_compare a b = some (cmpI a b) := by
  simp only [n_impl_compare, cmpI]
  by_cases h1 : a < b
  · simp [h1]
  · by_cases h2 : a > b
    · simp [h1, h2]
    · simp [h1, h2]

theorem cmp_loop {rf : List T_rI → List T_rI → Option Int} {rf2 : List T_rI → List T_rI → Option Int} {rf3 : List T_rI → Int → List T_rI → Int → Option Int} {a b : List T_rI} (hb : a.length < big)
    (hrf : ∀ x ∈ a, ∀ y, rf3 x.c0 x.c1 y.c0 y.c1 = some (tcmp x y)) :
    ∀ (t u : List T_rI) (i : Nat) (k : Nat), Sf a i t → Sf b i u → t.length < k → n_slices_CompareFunc_impl_OrdinalTerm_impl_OrdinalTerm_impl_OrdinalTerm_impl_OrdinalTerm_v0_l6 rf rf2 rf3 k a b i = some (ocmp t u) := by
  intro t
  induction t with
  | nil =>
    intro u i k h h2 hk
    cases k with
    | zero => simp at hk
    | succ k =>
      have la := h.l
      have lb := h2.l
      simp at la
      simp only [n_slices_CompareFunc_impl_OrdinalTerm_impl_OrdinalTerm_impl_OrdinalTerm_impl_OrdinalTerm_v0_l6, n_slices_CompareFunc_impl_OrdinalTerm_impl_OrdinalTerm_impl_OrdinalTerm_impl_OrdinalTerm_v0_b6, h.ge, cond_false]
      cases u with
      | nil =>
        have : decide ((a.length : Int) < (b.length : Int)) = false := by simp at lb; simp; omega
        simp only [this, cond_false, ocmp]
      | cons y u =>
        have : decide ((a.length : Int) < (b.length : Int)) = true := by simp at lb; simp; omega
        simp only [this, cond_true, ocmp]
  | cons x t ih =>
    intro u i k h h2 hk
    cases k with
    | zero => simp at hk
    | succ k =>
      have lb := h2.l
      simp only [n_slices_CompareFunc_impl_OrdinalTerm_impl_OrdinalTerm_impl_OrdinalTerm_impl_OrdinalTerm_v0_l6, n_slices_CompareFunc_impl_OrdinalTerm_impl_OrdinalTerm_impl_OrdinalTerm_impl_OrdinalTerm_v0_b6, h.lt, cond_true, h.idx, Option.bind_some, h.wr hb]
      cases u with
      | nil =>
        have : decide ((i : Int) ≥ (b.length : Int)) = true := by simp at lb; simp; omega
        simp only [this, cond_true, ocmp]
      | cons y u =>
        have : decide ((i : Int) ≥ (b.length : Int)) = false := by simp at lb; simp; omega
        simp only [this, cond_false, h2.idx, Option.bind_some, hrf x h.mem y, ocmp]
        by_cases hc : tcmp x y = 0
        · simp only [hc, decide_true, cond_true, if_true]
          exact ih u (i + 1) k h.step h2.step (by simp at hk; omega)
        · simp only [hc, decide_false, cond_false, if_false]
theorem impl_cmp_ok : ∀ (m : Nat) (a b : List T_rI), cntL a < m → m < 1000000000 → ∀ n, 3 * m ≤ n → n_impl_cmp_N n a b = some (ocmp a b) := by
  intro m
  induction m with
  | zero => intro a b h; omega
  | succ m ih =>
    intro a b h hm n hn
    obtain ⟨k, rfl⟩ : ∃ k, n = k + 3 := ⟨n - 3, by omega⟩
    have hlen := len_cnt a
    rw [n_impl_cmp_N_succ]
    simp only [n_impl_cmp_B]
    rw [n_slices_CompareFunc_impl_OrdinalTerm_impl_OrdinalTerm_impl_OrdinalTerm_impl_OrdinalTerm_v0_N_succ]
    simp only [n_slices_CompareFunc_impl_OrdinalTerm_impl_OrdinalTerm_impl_OrdinalTerm_impl_OrdinalTerm_v0_B]
    have := cmp_loop (rf := n_impl_cmp_N (k + 1)) (rf2 := n_slices_CompareFunc_impl_OrdinalTerm_impl_OrdinalTerm_impl_OrdinalTerm_impl_OrdinalTerm_v0_N (k + 1)) (rf3 := n_impl_cmpTerms_N (k + 1)) (a := a) (b := b) (by simp only [big]; omega) (by
      intro x hx y
      have hc := mem_cnt hx
      rw [n_impl_cmpTerms_N_succ]
      simp only [n_impl_cmpTerms_B, ih x.c0 y.c0 (by omega) (by omega) k (by omega), Option.bind_some, compare_ok]
      rw [tcmp_eq]
      by_cases h0 : ocmp x.c0 y.c0 = 0
      · simp [h0]
      · simp [h0]) a b 0 fuel (Sf.start a) (Sf.start b) (lt_fuel (by omega))
    rw [show ((0 : Int)) = ((0 : Nat) : Int) from rfl, this, Option.bind_some]
theorem cmp_ok (a b : List T_rI) (h : cntL a < sml) : n_impl_cmp a b = some (ocmp a b) := by
  simp only [sml] at h
  exact impl_cmp_ok (cntL a + 1) a b (by omega) (by omega) fuel (by rw [fuel_eq]; omega)

/-! ### coefficients in their range -/
mutual
def rngT : T_rI → Bool
  | .mk e c => decide (1 ≤ c ∧ c ≤ 1000000) && rng e
def rng : List T_rI → Bool
  | [] => true
  | t :: l => rngT t && rng l
end
theorem rngT_eq (t : T_rI) : rngT t = (decide (1 ≤ t.c1 ∧ t.c1 ≤ 1000000) && rng t.c0) := by cases t; simp only [rngT]; rfl
theorem rng_mem {l : List T_rI} (h : rng l = true) {x : T_rI} (hx : x ∈ l) : 1 ≤ x.c1 ∧ x.c1 ≤ 1000000 ∧ rng x.c0 = true := by
  induction l with
  | nil => simp at hx
  | cons a l ih =>
    simp only [rng, Bool.and_eq_true, rngT_eq, decide_eq_true_eq] at h
    rcases List.mem_cons.1 hx with rfl | hx
    · exact ⟨h.1.1.1, h.1.1.2, h.1.2⟩
    · exact ih h.2 hx
theorem sign_ok (c d : Int) (h1 : 1 ≤ c ∧ c ≤ 1000000) (h2 : 1 ≤ d ∧ d ≤ 1000000) : n_spec_l1Sign (wr (c - d)) = some (cmpI c d) := by
  rw [wr_id (by omega) (by omega)]
  simp only [n_spec_l1Sign, cmpI]
  by_cases h3 : c < d
  · have e1 : ¬ (c - d > 0) := by omega
    have e2 : c - d < 0 := by omega
    rw [decide_eq_false e1, decide_eq_true e2, if_pos h3]; rfl
  · by_cases h4 : c > d
    · have e1 : c - d > 0 := by omega
      simp [e1, h3, h4]
    · have e1 : ¬ (c - d > 0) := by omega
      have e2 : ¬ (c - d < 0) := by omega
      rw [decide_eq_false e1, decide_eq_false e2, if_neg h3, if_neg h4]; rfl
theorem cmpI_zero (c d : Int) : cmpI c d = 0 ↔ c = d := by
  simp only [cmpI]
  by_cases h : c < d
  · simp [h]; omega
  · by_cases h2 : c > d
    · simp [h, h2]; omega
    · simp [h, h2]; omega

theorem scmp_loop {rf : List T_rI → List T_rI → Option Int} {a b : List T_rI} (hb : a.length < big) (ra : rng a = true) (rb : rng b = true)
    (hrf : ∀ x ∈ a, ∀ y ∈ b, rf x.c0 y.c0 = some (ocmp x.c0 y.c0)) :
    ∀ (t u : List T_rI) (i : Nat) (k : Nat), Sf a i t → Sf b i u → t.length < k → n_spec_odCmp_l6 rf k a i b = some (ocmp t u) := by
  intro t
  induction t with
  | nil =>
    intro u i k h h2 hk
    cases k with
    | zero => simp at hk
    | succ k =>
      have la := h.l
      have lb := h2.l
      simp at la
      simp only [n_spec_odCmp_l6, n_spec_odCmp_b6, h.ge, cond_false]
      cases u with
      | nil =>
        have : decide ((b.length : Int) > (a.length : Int)) = false := by simp at lb; simp; omega
        simp only [this, cond_false, ocmp]
      | cons y u =>
        have : decide ((b.length : Int) > (a.length : Int)) = true := by simp at lb; simp; omega
        simp only [this, cond_true, ocmp]
  | cons x t ih =>
    intro u i k h h2 hk
    cases k with
    | zero => simp at hk
    | succ k =>
      have lb := h2.l
      simp only [n_spec_odCmp_l6, n_spec_odCmp_b6, h.lt, cond_true, h.idx, Option.bind_some, h.wr hb]
      cases u with
      | nil =>
        have : decide ((i : Int) = (b.length : Int)) = true := by simp at lb; simp; omega
        simp only [this, cond_true, ocmp]
      | cons y u =>
        have : decide ((i : Int) = (b.length : Int)) = false := by simp at lb; simp; omega
        obtain ⟨x1, x2, x3⟩ := rng_mem ra h.mem
        obtain ⟨y1, y2, y3⟩ := rng_mem rb h2.mem
        simp only [this, cond_false, h2.idx, Option.bind_some, hrf x h.mem y h2.mem, ocmp, tcmp_eq, sign_ok _ _ ⟨x1, x2⟩ ⟨y1, y2⟩]
        by_cases hc : ocmp x.c0 y.c0 = 0
        · simp only [hc, decide_true, cond_true, if_true]
          by_cases h4 : x.c1 = y.c1
          · have h5 := (cmpI_zero _ _).2 h4
            rw [h5, decide_eq_true h4]
            simp only [cond_true, if_true]
            exact ih u (i + 1) k h.step h2.step (by simp at hk; omega)
          · have h5 : ¬ cmpI x.c1 y.c1 = 0 := fun e => h4 ((cmpI_zero _ _).1 e)
            simp only [h4, decide_false, cond_false, h5, if_false]
        · simp only [hc, decide_false, cond_false, if_false]
theorem spec_cmp_ok : ∀ (m : Nat) (a b : List T_rI), cntL a < m → m < 1000000000 → rng a = true → rng b = true → ∀ n, m ≤ n → n_spec_odCmp_N n a b = some (ocmp a b) := by
  intro m
  induction m with
  | zero => intro a b h; omega
  | succ m ih =>
    intro a b h hm ra rb n hn
    obtain ⟨k, rfl⟩ : ∃ k, n = k + 1 := ⟨n - 1, by omega⟩
    have hlen := len_cnt a
    simp only [n_spec_odCmp_N, n_spec_odCmp_B]
    exact scmp_loop (by simp only [big]; omega) ra rb (by
      intro x hx y hy
      have hc := mem_cnt hx
      exact ih x.c0 y.c0 (by omega) (by omega) (rng_mem ra hx).2.2 (rng_mem rb hy).2.2 k (by omega)) a b 0 fuel (Sf.start a) (Sf.start b) (lt_fuel (by omega))
theorem scmp_ok (a b : List T_rI) (h : cntL a < sml) (ra : rng a = true) (rb : rng b = true) : n_spec_odCmp a b = some (ocmp a b) := by
  simp only [sml] at h
  exact spec_cmp_ok (cntL a + 1) a b (by omega) (by omega) ra rb fuel (by rw [fuel_eq]; omega)

/-! ### which ordinals are good -/
def desc (p : Option (List T_rI)) (e : List T_rI) : Bool := match p with
  | none => true
  | some q => !decide (ocmp q e ≤ 0)
mutual
def formT : T_rI → Int → Bool
  | .mk e c, d => decide (1 ≤ c ∧ c ≤ 1000000) && (decide (0 ≤ d - 1) && formL e (d - 1) none)
def formL : List T_rI → Int → Option (List T_rI) → Bool
  | [], _, _ => true
  | t :: l, d, p => formT t d && (desc p t.c0 && formL l d (some t.c0))
end
def form (l : List T_rI) (d : Int) : Bool := decide (0 ≤ d) && formL l d none
theorem formT_eq (t : T_rI) (d : Int) : formT t d = (decide (1 ≤ t.c1 ∧ t.c1 ≤ 1000000) && form t.c0 (d - 1)) := by cases t; simp only [formT, form]; rfl
theorem formL_rng : ∀ (m : Nat) (l : List T_rI) (d : Int) (p : Option (List T_rI)), cntL l < m → formL l d p = true → rng l = true := by
  intro m
  induction m with
  | zero => intro l d p h; omega
  | succ m ih =>
    intro l d p h hf
    cases l with
    | nil => simp only [rng]
    | cons t l =>
      rw [cntL_cons] at h
      simp only [formL, formT_eq, form, Bool.and_eq_true, decide_eq_true_eq] at hf
      simp only [rng, rngT_eq, Bool.and_eq_true, decide_eq_true_eq]
      refine ⟨⟨hf.1.1, ih t.c0 _ _ (by omega) hf.1.2.2⟩, ?_⟩
      rcases Nat.lt_or_ge (cntL l) m with h1 | h1
      · exact ih l _ _ h1 hf.2.2
      · omega
theorem form_rng {l : List T_rI} {d : Int} (h : form l d = true) : rng l = true := by
  simp only [form, Bool.and_eq_true] at h
  exact formL_rng (cntL l + 1) l d none (by omega) h.2

theorem in_ok (n lo hi : Int) : n_impl_in n lo hi = some (decide (lo ≤ n ∧ n ≤ hi)) := by
  simp only [n_impl_in]
  by_cases h : n ≥ lo
  · simp [h]
  · have : ¬ (lo ≤ n ∧ n ≤ hi) := by omega
    simp [h, this]
theorem l1In_ok (n lo hi : Int) : n_spec_l1In n lo hi = some (decide (lo ≤ n ∧ n ≤ hi)) := by
  simp only [n_spec_l1In]
  by_cases h : n ≥ lo
  · simp [h]
  · have : ¬ (lo ≤ n ∧ n ≤ hi) := by omega
    simp [h, this]

theorem form_loop {rf : List T_rI → Int → Option Bool} {a : List T_rI} {d : Int} (hb : cntL a < sml) (hd : -100 ≤ d ∧ d ≤ 100)
    (hrf : ∀ x ∈ a, rf x.c0 (d - 1) = some (form x.c0 (d - 1))) :
    ∀ (t : List T_rI) (i : Nat) (k : Nat) (p : Option T_rI), Sf a i t → Pv a i p → (∀ q, p = some q → q ∈ a ∧ rng q.c0 = true) → t.length < k → n_spec_odForm_l14 rf k d a i = some (formL t d (p.map (·.c0))) := by
  have hl := len_cnt a
  have hbb : a.length < big := by simp only [sml] at hb; simp only [big]; omega
  intro t
  induction t with
  | nil =>
    intro i k p h hp hq hk
    cases k with
    | zero => simp at hk
    | succ k => simp only [n_spec_odForm_l14, n_spec_odForm_b14, h.ge, cond_false, formL]
  | cons x t ih =>
    intro i k p h hp hq hk
    cases k with
    | zero => simp at hk
    | succ k =>
      simp only [n_spec_odForm_l14, n_spec_odForm_b14, h.lt, cond_true, h.idx, Option.bind_some, h.wr hbb, l1In_ok, formL, formT_eq]
      by_cases hc : 1 ≤ x.c1 ∧ x.c1 ≤ 1000000
      · rw [wr_id (by omega) (by omega)]
        simp only [hc, and_self, decide_true, cond_true, Bool.true_and, hrf x h.mem, Option.bind_some]
        cases hf : form x.c0 (d - 1) with
        | false => simp only [cond_false, Bool.false_and]
        | true =>
          simp only [cond_true, Bool.true_and]
          have hr := form_rng hf
          have step := ih (i + 1) k (some x) h.step (Pv.step h) (by intro q e; obtain rfl := Option.some.inj e; exact ⟨h.mem, hr⟩) (by simp at hk; omega)
          cases p with
          | none =>
            simp only [hp.no, cond_false, Option.map_none, desc, Bool.true_and]
            exact step
          | some q =>
            obtain ⟨q1, q2⟩ := hq q rfl
            have qc := mem_cnt q1
            simp only [hp.yes, cond_true, hp.idx hbb, Option.bind_some, scmp_ok q.c0 x.c0 (by simp only [sml] at hb ⊢; omega) q2 hr, Option.map_some, desc]
            cases hd2 : decide (ocmp q.c0 x.c0 ≤ 0) with
            | true => simp
            | false => simp only [cond_false, Bool.not_false, Bool.true_and]; exact step
      · simp only [hc, decide_false, cond_false, Bool.false_and]
theorem spec_form_ok : ∀ (m : Nat) (a : List T_rI) (d : Int), cntL a < m → m ≤ sml → -50 ≤ d → d ≤ 50 → ∀ n, m ≤ n → n_spec_odForm_N n a d = some (form a d) := by
  intro m
  induction m with
  | zero => intro a d h; omega
  | succ m ih =>
    intro a d h hm hd1 hd2 n hn
    obtain ⟨k, rfl⟩ : ∃ k, n = k + 1 := ⟨n - 1, by omega⟩
    have hlen := len_cnt a
    simp only [n_spec_odForm_N, n_spec_odForm_B, form]
    by_cases h0 : d < 0
    · have : ¬ (0 ≤ d) := by omega
      simp [h0, this]
    · have h1 : 0 ≤ d := by omega
      simp only [h0, decide_false, cond_false, h1, decide_true, Bool.true_and]
      have := form_loop (rf := n_spec_odForm_N k) (a := a) (d := d) (by omega) (by omega) (by
        intro x hx
        have hc := mem_cnt hx
        exact ih x.c0 (d - 1) (by omega) (by omega) (by omega) (by omega) k (by omega)) a 0 fuel none (Sf.start a) (Pv.start a) (by simp) (lt_fuel (by simp only [sml] at hm; omega))
      simpa using this

end Go.Proofs.YtcaemkcglflmnaaDoor.Vm
