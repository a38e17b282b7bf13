/-
  Which ordinals and words are good, by the program and by its specification. Conditions: none.
-/
import Derived.Test.YtcaemkcglflmnaaDoorPlC
namespace Go.Proofs.YtcaemkcglflmnaaDoor.Vm
open Go Go.Proofs Go.RowKit
set_option linter.unusedVariables false
set_option linter.unusedSimpArgs false

/-- Nodes that a walk through t counts from x on, and whether it ends well. -/
theorem at_loop {rf : List T_rI → Int → Int → Option (Bool × Int)} {a : List T_rI} {d : Int} (hb : cntL a < sml) (hd : -1 ≤ d ∧ d ≤ 7)
    (hrf : ∀ x ∈ a, ∀ v : Int, 0 ≤ v → v ≤ 60 → ∃ w, rf x.c0 (d + 1) v = some (decide (v + 1 + 2 * (cntL x.c0 : Int) ≤ 60) && form x.c0 (6 - (d + 1)), w) ∧ ((decide (v + 1 + 2 * (cntL x.c0 : Int) ≤ 60) && form x.c0 (6 - (d + 1))) = true → w = v + 1 + 2 * (cntL x.c0 : Int))) :
    ∀ (t : List T_rI) (i : Nat) (k : Nat) (p : Option T_rI) (v : Int), Sf a i t → Pv a i p → (∀ q, p = some q → q ∈ a) → t.length < k → 0 ≤ v → v ≤ 60 →
      ∃ w, n_impl_ordinalAt_v1_l16 rf k a d i v = some (decide (v + 2 * (cntL t : Int) ≤ 60) && formL t (6 - d) (p.map (·.c0)), w) ∧ ((decide (v + 2 * (cntL t : Int) ≤ 60) && formL t (6 - d) (p.map (·.c0))) = true → w = v + 2 * (cntL t : Int)) := by
  have hl := len_cnt a
  have hbb : a.length < big := by simp only [sml] at hb; simp only [big]; omega
  intro t
  induction t with
  | nil =>
    intro i k p v h hp hq hk hv0 hv1
    cases k with
    | zero => simp at hk
    | succ k =>
      refine ⟨v, ?_, ?_⟩
      · have e : decide (v + 2 * ((cntL ([] : List T_rI) : Nat) : Int) ≤ 60) = true := by simp only [cntL_nil]; exact decide_eq_true (by omega)
        simp only [n_impl_ordinalAt_v1_l16, n_impl_ordinalAt_v1_b16, h.ge, cond_false, formL, e, Bool.and_self]
      · intro _; simp only [cntL_nil]; omega
  | cons x t ih =>
    intro i k p v h hp hq hk hv0 hv1
    cases k with
    | zero => simp at hk
    | succ k =>
      simp only [n_impl_ordinalAt_v1_l16, n_impl_ordinalAt_v1_b16, h.lt, cond_true, h.idx, Option.bind_some, in_ok, formL, formT_eq]
      rw [wr_id (n := v + 1) (by omega) (by omega)]
      have hcx : ((cntL (x :: t) : Nat) : Int) = 1 + (cntL x.c0 : Int) + (cntL t : Int) := by rw [cntL_cons]; omega
      rw [hcx]
      by_cases h1 : v + 1 > 60
      · have e1 : decide (v + 2 * (1 + (cntL x.c0 : Int) + (cntL t : Int)) ≤ 60) = false := decide_eq_false (by omega)
        rw [decide_eq_true h1, e1]
        exact ⟨v + 1, by simp, by simp⟩
      · rw [decide_eq_false h1]
        simp only [cond_false]
        by_cases hc : 1 ≤ x.c1 ∧ x.c1 ≤ 1000000
        · rw [decide_eq_true hc, wr_id (n := d + 1) (by omega) (by omega)]
          simp only [cond_true, Bool.true_and]
          obtain ⟨w, hw1, hw2⟩ := hrf x h.mem (v + 1) (by omega) (by omega)
          have hs : (6 - (d + 1) : Int) = 6 - d - 1 := by omega
          rw [hs] at hw1 hw2
          simp only [hw1, Option.bind_some]
          by_cases h2 : v + 1 + 1 + 2 * (cntL x.c0 : Int) ≤ 60
          · rw [decide_eq_true h2] at hw2 ⊢
            simp only [Bool.true_and] at hw2 ⊢
            cases hf : form x.c0 (6 - d - 1) with
            | false => simp only [cond_false, Bool.false_and, Bool.and_false]; exact ⟨w, rfl, by simp⟩
            | true =>
              have hw3 := hw2 hf
              simp only [cond_true, Bool.true_and, n_impl_ordinalAt_v1_j39]
              have step := ih (i + 1) k (some x) w h.step (Pv.step h) (by intro q e; obtain rfl := Option.some.inj e; exact h.mem) (by simp at hk; omega) (by omega) (by omega)
              have e2 : v + 2 * (1 + (cntL x.c0 : Int) + (cntL t : Int)) = w + 2 * (cntL t : Int) := by omega
              rw [e2]
              cases p with
              | none =>
                simp only [hp.no, cond_false, Option.map_none, desc, Bool.true_and, h.wr hbb]
                exact step
              | some q =>
                have qc := mem_cnt (hq q rfl)
                simp only [hp.yes, cond_true, hp.idx hbb, Option.bind_some, cmp_ok q.c0 x.c0 (by simp only [sml] at hb ⊢; omega), Option.map_some, desc, h.wr hbb]
                cases hd2 : decide (ocmp q.c0 x.c0 ≤ 0) with
                | true => exact ⟨w, by simp, by simp⟩
                | false => simp only [cond_false, Bool.not_false, Bool.true_and]; exact step
          · have e1 : decide (v + 2 * (1 + (cntL x.c0 : Int) + (cntL t : Int)) ≤ 60) = false := decide_eq_false (by omega)
            rw [decide_eq_false h2, e1]
            simp only [Bool.false_and, cond_false]
            exact ⟨w, rfl, by simp⟩
        · rw [decide_eq_false hc]
          simp only [cond_false, Bool.false_and, Bool.and_false]
          exact ⟨v + 1, rfl, by simp⟩
theorem at_ok : ∀ (m : Nat) (a : List T_rI) (d v : Int), cntL a < m → m ≤ sml → 0 ≤ d → d ≤ 7 → 0 ≤ v → v ≤ 60 → ∀ n, m ≤ n →
    ∃ w, n_impl_ordinalAt_v1_N n a d v = some (decide (v + 1 + 2 * (cntL a : Int) ≤ 60) && form a (6 - d), w) ∧ ((decide (v + 1 + 2 * (cntL a : Int) ≤ 60) && form a (6 - d)) = true → w = v + 1 + 2 * (cntL a : Int)) := by
  intro m
  induction m with
  | zero => intro a d v h; omega
  | succ m ih =>
    intro a d v h hm hd1 hd2 hv1 hv2 n hn
    obtain ⟨k, rfl⟩ : ∃ k, n = k + 1 := ⟨n - 1, by omega⟩
    have hlen := len_cnt a
    simp only [n_impl_ordinalAt_v1_N, n_impl_ordinalAt_v1_B]
    rw [wr_id (n := v + 1) (by omega) (by omega)]
    by_cases h1 : v + 1 > 60
    · rw [decide_eq_true h1, decide_eq_false (p := v + 1 + 2 * (cntL a : Int) ≤ 60) (by omega)]
      exact ⟨v + 1, by simp, by simp⟩
    · rw [decide_eq_false h1]
      simp only [cond_false, form]
      by_cases h2 : d > 6
      · rw [decide_eq_true h2, decide_eq_false (p := 0 ≤ 6 - d) (by omega)]
        exact ⟨v + 1, by simp, by simp⟩
      · rw [decide_eq_false h2, decide_eq_true (p := 0 ≤ 6 - d) (by omega)]
        simp only [cond_false, Bool.true_and, n_impl_ordinalAt_v1_j12]
        rw [wr_id (n := v + 1) (by omega) (by omega)]
        have := at_loop (rf := n_impl_ordinalAt_v1_N k) (a := a) (d := d) (by omega) (by omega) (by
          intro x hx u hu0 hu1
          have hc := mem_cnt hx
          exact ih x.c0 (d + 1) u (by omega) (by omega) (by omega) (by omega) hu0 hu1 k (by omega)) a 0 fuel none (v + 1) (Sf.start a) (Pv.start a) (by simp) (lt_fuel (by simp only [sml] at hm; omega)) (by omega) (by omega)
        simpa using this

theorem at0_loop {a : List T_rI} (hb : cntL a < sml) :
    ∀ (t : List T_rI) (i : Nat) (k : Nat) (p : Option T_rI) (v : Int), Sf a i t → Pv a i p → (∀ q, p = some q → q ∈ a) → t.length < k → 0 ≤ v → v ≤ 60 →
      ∃ w, n_impl_ordinalAt_l16 k 0 a i v = some (decide (v + 2 * (cntL t : Int) ≤ 60) && formL t 6 (p.map (·.c0)), a, w) ∧ ((decide (v + 2 * (cntL t : Int) ≤ 60) && formL t 6 (p.map (·.c0))) = true → w = v + 2 * (cntL t : Int)) := by
  have hl := len_cnt a
  have hbb : a.length < big := by simp only [sml] at hb; simp only [big]; omega
  intro t
  induction t with
  | nil =>
    intro i k p v h hp hq hk hv0 hv1
    cases k with
    | zero => simp at hk
    | succ k =>
      refine ⟨v, ?_, ?_⟩
      · have e : decide (v + 2 * ((cntL ([] : List T_rI) : Nat) : Int) ≤ 60) = true := by simp only [cntL_nil]; exact decide_eq_true (by omega)
        simp only [n_impl_ordinalAt_l16, n_impl_ordinalAt_b16, h.ge, cond_false, formL, e, Bool.and_self]
      · intro _; simp only [cntL_nil]; omega
  | cons x t ih =>
    intro i k p v h hp hq hk hv0 hv1
    cases k with
    | zero => simp at hk
    | succ k =>
      simp only [n_impl_ordinalAt_l16, n_impl_ordinalAt_b16, h.lt, cond_true, h.idx, Option.bind_some, in_ok, formL, formT_eq]
      rw [wr_id (n := v + 1) (by omega) (by omega)]
      have hcx : ((cntL (x :: t) : Nat) : Int) = 1 + (cntL x.c0 : Int) + (cntL t : Int) := by rw [cntL_cons]; omega
      rw [hcx]
      by_cases h1 : v + 1 > 60
      · have e1 : decide (v + 2 * (1 + (cntL x.c0 : Int) + (cntL t : Int)) ≤ 60) = false := decide_eq_false (by omega)
        rw [decide_eq_true h1, e1]
        exact ⟨v + 1, by simp, by simp⟩
      · rw [decide_eq_false h1]
        simp only [cond_false]
        by_cases hc : 1 ≤ x.c1 ∧ x.c1 ≤ 1000000
        · rw [decide_eq_true hc, wr_id (n := (0 : Int) + 1) (by omega) (by omega)]
          simp only [cond_true, Bool.true_and]
          have hxc := mem_cnt h.mem
          obtain ⟨w, hw1, hw2⟩ := at_ok (cntL x.c0 + 1) x.c0 (0 + 1) (v + 1) (by omega) (by simp only [sml] at hb ⊢; omega) (by omega) (by omega) (by omega) (by omega) fuel (by rw [fuel_eq]; simp only [sml] at hb; omega)
          have hs : (6 - (0 + 1) : Int) = 6 - 1 := by omega
          rw [hs] at hw1 hw2
          have hw1' : n_impl_ordinalAt_v1 x.c0 (0 + 1) (v + 1) = _ := hw1
          simp only [hw1', Option.bind_some]
          by_cases h2 : v + 1 + 1 + 2 * (cntL x.c0 : Int) ≤ 60
          · rw [decide_eq_true h2] at hw2 ⊢
            simp only [Bool.true_and] at hw2 ⊢
            cases hf : form x.c0 (6 - 1) with
            | false => simp only [cond_false, Bool.false_and, Bool.and_false]; exact ⟨w, rfl, by simp⟩
            | true =>
              have hw3 := hw2 hf
              simp only [cond_true, Bool.true_and, n_impl_ordinalAt_j39]
              have step := ih (i + 1) k (some x) w h.step (Pv.step h) (by intro q e; obtain rfl := Option.some.inj e; exact h.mem) (by simp at hk; omega) (by omega) (by omega)
              have e2 : v + 2 * (1 + (cntL x.c0 : Int) + (cntL t : Int)) = w + 2 * (cntL t : Int) := by omega
              rw [e2]
              cases p with
              | none =>
                simp only [hp.no, cond_false, Option.map_none, desc, Bool.true_and, h.wr hbb]
                exact step
              | some q =>
                have qc := mem_cnt (hq q rfl)
                simp only [hp.yes, cond_true, hp.idx hbb, Option.bind_some, cmp_ok q.c0 x.c0 (by simp only [sml] at hb ⊢; omega), Option.map_some, desc, h.wr hbb]
                cases hd2 : decide (ocmp q.c0 x.c0 ≤ 0) with
                | true => exact ⟨w, by simp, by simp⟩
                | false => simp only [cond_false, Bool.not_false, Bool.true_and]; exact step
          · have e1 : decide (v + 2 * (1 + (cntL x.c0 : Int) + (cntL t : Int)) ≤ 60) = false := decide_eq_false (by omega)
            rw [decide_eq_false h2, e1]
            simp only [Bool.false_and, cond_false]
            exact ⟨w, rfl, by simp⟩
        · rw [decide_eq_false hc]
          simp only [cond_false, Bool.false_and, Bool.and_false]
          exact ⟨v + 1, rfl, by simp⟩

def good (a : List T_rI) : Bool := decide (1 + 2 * (cntL a : Int) ≤ 60) && form a 6
theorem good_form {a : List T_rI} (h : good a = true) : form a 6 = true := by simp only [good, Bool.and_eq_true] at h; exact h.2
theorem good_cnt {a : List T_rI} (h : good a = true) : cntL a ≤ 29 := by simp only [good, Bool.and_eq_true, decide_eq_true_eq] at h; omega
theorem NodesOf_ok (a : List T_rI) (hb : cntL a < sml) : n_impl_NodesOf a = some (if good a = true then (1 + 2 * (cntL a : Int), true) else (0, false)) := by
  have hl := len_cnt a
  obtain ⟨w, h1, h2⟩ := at0_loop hb a 0 fuel none 1 (Sf.start a) (Pv.start a) (by simp) (lt_fuel (by simp only [sml] at hb; omega)) (by omega) (by omega)
  have e : n_impl_ordinalAt a 0 0 = some (good a, a, w) := by
    simp only [n_impl_ordinalAt, n_impl_ordinalAt_j12, wr_id (n := (0 : Int) + 1) (by omega) (by omega)]
    simpa [good, form] using h1
  simp only [n_impl_NodesOf, e, Option.bind_some]
  cases hg : good a with
  | false => simp
  | true =>
    have : w = 1 + 2 * (cntL a : Int) := h2 (by simpa [good, form] using hg)
    simp [this]

/-! ### the specification's -/
def depL : List T_rI → Int → Bool
  | [], _ => true
  | .mk e _ :: l, d => !decide (d = 0) && (depL e (d - 1) && depL l d)
theorem depL_cons (t : T_rI) (l : List T_rI) (d : Int) : depL (t :: l) d = (!decide (d = 0) && (depL t.c0 (d - 1) && depL l d)) := by cases t; simp only [depL]; rfl
theorem form_dep : ∀ (m : Nat) (l : List T_rI) (d : Int) (p : Option (List T_rI)), cntL l < m → 0 ≤ d → formL l d p = true → depL l d = true := by
  intro m
  induction m with
  | zero => intro l d p h; omega
  | succ m ih =>
    intro l d p h hd hf
    cases l with
    | nil => simp only [depL]
    | cons t l =>
      rw [cntL_cons] at h
      simp only [formL, formT_eq, form, Bool.and_eq_true, decide_eq_true_eq] at hf
      rw [depL_cons]
      have h1 : ¬ d = 0 := by omega
      rw [decide_eq_false h1, ih t.c0 (d - 1) none (by omega) (by omega) hf.1.2.2]
      rcases Nat.lt_or_ge (cntL l) m with h2 | h2
      · rw [ih l d _ h2 hd hf.2.2]; rfl
      · omega
theorem left_loop {rf : List T_rI → Int → Int → Option Int} {a : List T_rI} {d : Int} (hb : cntL a < sml) (hd : 0 ≤ d ∧ d ≤ 10)
    (hrf : ∀ x ∈ a, ∀ v : Int, -1 ≤ v → v ≤ 1000 → d ≠ 0 → ∃ w, rf x.c0 (d - 1) v = some w ∧ -10 ≤ w ∧ w ≤ v ∧ (0 ≤ w ↔ (depL x.c0 (d - 1) = true ∧ 0 ≤ v - 1 - 2 * (cntL x.c0 : Int))) ∧ (0 ≤ w → w = v - 1 - 2 * (cntL x.c0 : Int))) :
    ∀ (t : List T_rI) (i : Nat) (k : Nat) (v : Int), Sf a i t → t.length < k → -10 ≤ v → v ≤ 1000 →
      ∃ w, n_spec_odLeft_l8 rf k d v a i = some w ∧ -10 ≤ w ∧ w ≤ max v (-1) ∧ (0 ≤ w ↔ (depL t d = true ∧ 0 ≤ v - 2 * (cntL t : Int))) ∧ (0 ≤ w → w = v - 2 * (cntL t : Int)) := by
  have hl := len_cnt a
  have hbb : a.length < big := by simp only [sml] at hb; simp only [big]; omega
  intro t
  induction t with
  | nil =>
    intro i k v h hk hv0 hv1
    cases k with
    | zero => simp at hk
    | succ k =>
      refine ⟨v, by simp only [n_spec_odLeft_l8, n_spec_odLeft_b8, h.ge, cond_false], hv0, by omega, ?_, ?_⟩
      · simp [depL, cntL_nil]
      · simp [cntL_nil]
  | cons x t ih =>
    intro i k v h hk hv0 hv1
    cases k with
    | zero => simp at hk
    | succ k =>
      simp only [n_spec_odLeft_l8, n_spec_odLeft_b8, h.lt, cond_true, h.idx, Option.bind_some, h.wr hbb, depL_cons]
      have hcx : ((cntL (x :: t) : Nat) : Int) = 1 + (cntL x.c0 : Int) + (cntL t : Int) := by rw [cntL_cons]; omega
      rw [hcx]
      by_cases h1 : v < 0
      · rw [decide_eq_true h1]
        refine ⟨-1, rfl, by omega, by omega, ?_, by omega⟩
        constructor
        · intro h; omega
        · rintro ⟨_, h⟩; omega
      · rw [decide_eq_false h1]
        simp only [cond_false]
        by_cases h2 : d = 0
        · rw [decide_eq_true h2]
          refine ⟨-1, rfl, by omega, by omega, ?_, by omega⟩
          constructor
          · intro h; omega
          · rintro ⟨h, _⟩; simp at h
        · rw [decide_eq_false h2]
          simp only [cond_false, n_spec_odLeft_j27, Bool.not_false, Bool.true_and]
          rw [wr_id (n := d - 1) (by omega) (by omega), wr_id (n := v - 1) (by omega) (by omega)]
          obtain ⟨w, w1, w2, w3, w4, w5⟩ := hrf x h.mem (v - 1) (by omega) (by omega) h2
          simp only [w1, Option.bind_some]
          obtain ⟨u, u1, u2, u3, u4, u5⟩ := ih (i + 1) k w h.step (by simp at hk; omega) w2 (by omega)
          refine ⟨u, by rw [← u1]; rw [h.wr hbb], u2, by omega, ?_, ?_⟩
          · rw [u4]
            constructor
            · rintro ⟨q1, q2⟩
              have hw0 : 0 ≤ w := by omega
              have e := w5 hw0
              rw [(w4.1 hw0).1, q1]
              exact ⟨rfl, by omega⟩
            · rintro ⟨q1, q2⟩
              simp only [Bool.and_eq_true] at q1
              have hw0 : 0 ≤ w := w4.2 ⟨q1.1, by omega⟩
              have e := w5 hw0
              exact ⟨q1.2, by omega⟩
          · intro hu
            have q := u4.1 hu
            have hw0 : 0 ≤ w := by omega
            have e := w5 hw0
            have := u5 hu
            omega
theorem left_ok : ∀ (m : Nat) (a : List T_rI) (d v : Int), cntL a < m → m ≤ sml → 0 ≤ d → d ≤ 10 → -1 ≤ v → v ≤ 1000 → ∀ n, m ≤ n →
    ∃ w, n_spec_odLeft_N n a d v = some w ∧ -10 ≤ w ∧ w ≤ v ∧ (0 ≤ w ↔ (depL a d = true ∧ 0 ≤ v - 1 - 2 * (cntL a : Int))) ∧ (0 ≤ w → w = v - 1 - 2 * (cntL a : Int)) := by
  intro m
  induction m with
  | zero => intro a d v h; omega
  | succ m ih =>
    intro a d v h hm hd1 hd2 hv1 hv2 n hn
    obtain ⟨k, rfl⟩ : ∃ k, n = k + 1 := ⟨n - 1, by omega⟩
    have hlen := len_cnt a
    simp only [n_spec_odLeft_N, n_spec_odLeft_B]
    rw [wr_id (n := v - 1) (by omega) (by omega)]
    obtain ⟨w, w1, w2, w3, w4, w5⟩ := left_loop (rf := n_spec_odLeft_N k) (a := a) (d := d) (by omega) (by omega) (by
      intro x hx u hu0 hu1 hdn
      have hc := mem_cnt hx
      exact ih x.c0 (d - 1) u (by omega) (by omega) (by omega) (by omega) hu0 hu1 k (by omega)) a 0 fuel (v - 1) (Sf.start a) (lt_fuel (by simp only [sml] at hm; omega)) (by omega) (by omega)
    exact ⟨w, w1, w2, by omega, by rw [w4], w5⟩
theorem odGood_ok (a : List T_rI) (hb : cntL a < sml) : n_spec_odGood a = some (good a) := by
  obtain ⟨w, w1, w2, w3, w4, w5⟩ := left_ok (cntL a + 1) a 6 60 (by omega) (by simp only [sml] at hb ⊢; omega) (by omega) (by omega) (by omega) (by omega) fuel (by rw [fuel_eq]; simp only [sml] at hb; omega)
  have w1' : n_spec_odLeft a 6 60 = some w := w1
  have f1 := spec_form_ok (cntL a + 1) a 6 (by omega) (by simp only [sml] at hb ⊢; omega) (by omega) (by omega) fuel (by rw [fuel_eq]; simp only [sml] at hb; omega)
  have f1' : n_spec_odForm a 6 = some (form a 6) := f1
  simp only [n_spec_odGood, w1', Option.bind_some, f1', good]
  by_cases h1 : w ≥ 0
  · rw [decide_eq_true h1]
    have h2 := (w4.1 h1).2
    rw [decide_eq_true (p := 1 + 2 * (cntL a : Int) ≤ 60) (by omega)]
    simp
  · rw [decide_eq_false h1]
    simp only [cond_false]
    cases hf : form a 6 with
    | false => simp
    | true =>
      simp only [form, Bool.and_eq_true] at hf
      have hd := form_dep (cntL a + 1) a 6 none (by omega) (by omega) hf.2
      have : ¬ (1 + 2 * (cntL a : Int) ≤ 60) := fun h => h1 (w4.2 ⟨hd, by omega⟩)
      rw [decide_eq_false this]
      rfl

/-! ### words -/
abbrev Wo := List (Bool × List T_rI)
def alt (q : Option Bool) (p : Bool) : Bool := match q with
  | none => true
  | some q => !decide (q = p)
def wform : Wo → Option Bool → Bool
  | [], _ => true
  | r :: w, q => good r.2 && (!decide (r.2.length = 0) && (alt q r.1 && wform w (some r.1)))
def wsz : Wo → Nat
  | [] => 0
  | r :: w => 2 + 2 * cntL r.2 + wsz w
def wgood (w : Wo) : Bool := wform w none && decide (1 + (wsz w : Int) ≤ 60)
theorem wsz_cnt : ∀ w : Wo, wsz w = 2 * cntW w
  | [] => rfl
  | r :: w => by simp only [wsz, cntW, wsz_cnt w]; omega

theorem size_loop {rf : List T_rI → Option Int} {a : List T_rI} (hb : cntL a < sml) (hrf : ∀ x ∈ a, rf x.c0 = some (1 + 2 * (cntL x.c0 : Int))) :
    ∀ (t : List T_rI) (i : Nat) (k : Nat) (v : Int), Sf a i t → t.length < k → 0 ≤ v → v ≤ 1000000000 - 2 * (cntL t : Int) → n_spec_odSize_l8 rf k v a i = some (v + 2 * (cntL t : Int)) := by
  have hl := len_cnt a
  have hbb : a.length < big := by simp only [sml] at hb; simp only [big]; omega
  intro t
  induction t with
  | nil =>
    intro i k v h hk hv0 hv1
    cases k with
    | zero => simp at hk
    | succ k => simp only [n_spec_odSize_l8, n_spec_odSize_b8, h.ge, cond_false, cntL_nil]; simp
  | cons x t ih =>
    intro i k v h hk hv0 hv1
    cases k with
    | zero => simp at hk
    | succ k =>
      have hcx : ((cntL (x :: t) : Nat) : Int) = 1 + (cntL x.c0 : Int) + (cntL t : Int) := by rw [cntL_cons]; omega
      rw [hcx] at hv1 ⊢
      simp only [n_spec_odSize_l8, n_spec_odSize_b8, h.lt, cond_true, h.idx, Option.bind_some, h.wr hbb, hrf x h.mem]
      rw [wr_id (n := 1 + (1 + 2 * (cntL x.c0 : Int))) (by omega) (by omega), wr_id (n := v + _) (by omega) (by omega), ih (i + 1) k _ h.step (by simp at hk; omega) (by omega) (by omega)]
      congr 1; omega
theorem size_ok : ∀ (m : Nat) (a : List T_rI), cntL a < m → m ≤ sml → ∀ n, m ≤ n → n_spec_odSize_N n a = some (1 + 2 * (cntL a : Int)) := by
  intro m
  induction m with
  | zero => intro a h; omega
  | succ m ih =>
    intro a h hm n hn
    obtain ⟨k, rfl⟩ : ∃ k, n = k + 1 := ⟨n - 1, by omega⟩
    have hlen := len_cnt a
    simp only [n_spec_odSize_N, n_spec_odSize_B]
    exact size_loop (by omega) (by
      intro x hx
      have hc := mem_cnt hx
      exact ih x.c0 (by omega) (by omega) k (by omega)) a 0 fuel 1 (Sf.start a) (lt_fuel (by simp only [sml] at hm; omega)) (by decide) (by simp only [sml] at hm; omega)
theorem odSize_ok (a : List T_rI) (hb : cntL a < sml) : n_spec_odSize a = some (1 + 2 * (cntL a : Int)) := by
  simp only [sml] at hb
  exact size_ok (cntL a + 1) a (by omega) (by simp only [sml]; omega) fuel (by rw [fuel_eq]; omega)
theorem woSize_loop {w : Wo} (hw : cntW w < sml) :
    ∀ (t : Wo) (i : Nat) (k : Nat) (v : Int), Sf w i t → t.length < k → 0 ≤ v → v ≤ 1000000000 - (wsz t : Int) → n_spec_woSize_l8 k v w i = some (v + (wsz t : Int)) := by
  have hl := len_cntW w
  have hbb : w.length < big := by simp only [sml] at hw; simp only [big]; omega
  intro t
  induction t with
  | nil =>
    intro i k v h hk hv0 hv1
    cases k with
    | zero => simp at hk
    | succ k => simp only [n_spec_woSize_l8, n_spec_woSize_b8, h.ge, cond_false, wsz]; simp
  | cons x t ih =>
    intro i k v h hk hv0 hv1
    cases k with
    | zero => simp at hk
    | succ k =>
      have hx := mem_cntW h.mem
      have hcx : ((wsz (x :: t) : Nat) : Int) = 2 + 2 * (cntL x.2 : Int) + (wsz t : Int) := by simp only [wsz]; omega
      rw [hcx] at hv1 ⊢
      simp only [n_spec_woSize_l8, n_spec_woSize_b8, h.lt, cond_true, h.idx, Option.bind_some, odSize_ok x.2 (by omega)]
      rw [wr_id (n := 1 + (1 + 2 * (cntL x.2 : Int))) (by omega) (by omega), wr_id (n := v + _) (by omega) (by omega), h.wr hbb, ih (i + 1) k _ h.step (by simp at hk; omega) (by omega) (by omega)]
      congr 1; omega
theorem woSize_ok (w : Wo) (hw : cntW w < sml) : n_spec_woSize w = some (1 + (wsz w : Int)) := by
  have hl := len_cntW w
  have e := wsz_cnt w
  simp only [sml] at hw
  exact woSize_loop hw w 0 fuel 1 (Sf.start w) (lt_fuel (by omega)) (by omega) (by omega)

theorem isZero_ok (a : List T_rI) : n_impl_isZero a = some (decide (a.length = 0)) := by
  simp only [n_impl_isZero]; congr 2; simp
theorem odZero_ok (a : List T_rI) : n_spec_odZero a = some (decide (a.length = 0)) := by
  simp only [n_spec_odZero]; congr 2; simp
theorem woGood_loop {w : Wo} (hw : cntW w < sml) :
    ∀ (t : Wo) (i : Nat) (k : Nat) (p : Option (Bool × List T_rI)), Sf w i t → Pv w i p → t.length < k → n_spec_woGood_l6 k w i = some (wform t (p.map (·.1)) && decide (1 + (wsz w : Int) ≤ 60)) := by
  have hl := len_cntW w
  have hbb : w.length < big := by simp only [sml] at hw; simp only [big]; omega
  intro t
  induction t with
  | nil =>
    intro i k p h hp hk
    cases k with
    | zero => simp at hk
    | succ k => simp only [n_spec_woGood_l6, n_spec_woGood_b6, h.ge, cond_false, wform, Bool.true_and, woSize_ok w hw, Option.bind_some]
  | cons x t ih =>
    intro i k p h hp hk
    cases k with
    | zero => simp at hk
    | succ k =>
      have hx := mem_cntW h.mem
      simp only [n_spec_woGood_l6, n_spec_woGood_b6, h.lt, cond_true, h.idx, Option.bind_some, odGood_ok x.2 (by omega), odZero_ok, wform]
      cases good x.2 with
      | false => simp
      | true =>
        simp only [cond_true, Bool.true_and]
        cases decide (x.2.length = 0) with
        | true => simp
        | false =>
          simp only [cond_false, Bool.not_false, Bool.true_and]
          have step := ih (i + 1) k (some x) h.step (Pv.step h) (by simp at hk; omega)
          rw [← h.wr hbb] at step
          cases p with
          | none =>
            simp only [hp.no, cond_false, Option.map_none, alt, Bool.true_and]
            exact step
          | some q =>
            simp only [hp.yes, cond_true, hp.idx hbb, Option.bind_some, Option.map_some, alt]
            cases decide (q.1 = x.1) with
            | true => simp
            | false => simp only [cond_false, Bool.not_false, Bool.true_and]; exact step
theorem woGood_ok (w : Wo) (hw : cntW w < sml) : n_spec_woGood w = some (wgood w) := by
  have hl := len_cntW w
  exact woGood_loop hw w 0 fuel none (Sf.start w) (Pv.start w) (lt_fuel (by simp only [sml] at hw; omega))
theorem isWord_loop {w : Wo} (hw : cntW w < sml) :
    ∀ (t : Wo) (i : Nat) (k : Nat) (p : Option (Bool × List T_rI)) (v : Int), Sf w i t → Pv w i p → t.length < k → 0 ≤ v → v ≤ 60 → n_impl_IsWord_l8 k v w i = some (wform t (p.map (·.1)) && decide (v + (wsz t : Int) ≤ 60)) := by
  have hl := len_cntW w
  have hbb : w.length < big := by simp only [sml] at hw; simp only [big]; omega
  intro t
  induction t with
  | nil =>
    intro i k p v h hp hk hv0 hv1
    cases k with
    | zero => simp at hk
    | succ k =>
      have : decide (v + ((wsz ([] : Wo) : Nat) : Int) ≤ 60) = true := decide_eq_true (by simp only [wsz]; omega)
      simp only [n_impl_IsWord_l8, n_impl_IsWord_b8, h.ge, cond_false, wform, Bool.true_and, this]
  | cons x t ih =>
    intro i k p v h hp hk hv0 hv1
    cases k with
    | zero => simp at hk
    | succ k =>
      have hx := mem_cntW h.mem
      have hcx : ((wsz (x :: t) : Nat) : Int) = 2 + 2 * (cntL x.2 : Int) + (wsz t : Int) := by simp only [wsz]; omega
      rw [hcx]
      simp only [n_impl_IsWord_l8, n_impl_IsWord_b8, h.lt, cond_true, h.idx, Option.bind_some, NodesOf_ok x.2 (by omega), isZero_ok, wform]
      cases hg : good x.2 with
      | false => simp
      | true =>
        have hc := good_cnt hg
        simp only [if_true, cond_true, Bool.true_and]
        rw [wr_id (n := 1 + 2 * (cntL x.2 : Int) + 1) (by omega) (by omega), wr_id (n := v + _) (by omega) (by omega)]
        by_cases h1 : v + (1 + 2 * (cntL x.2 : Int) + 1) > 60
        · rw [decide_eq_true h1, decide_eq_false (p := v + (2 + 2 * (cntL x.2 : Int) + (wsz t : Int)) ≤ 60) (by omega)]
          simp
        · rw [decide_eq_false h1]
          simp only [cond_false]
          cases decide (x.2.length = 0) with
          | true => simp
          | false =>
            simp only [cond_false, Bool.not_false, Bool.true_and]
            have step := ih (i + 1) k (some x) (v + (1 + 2 * (cntL x.2 : Int) + 1)) h.step (Pv.step h) (by simp at hk; omega) (by omega) (by omega)
            rw [← h.wr hbb] at step
            have e2 : v + (1 + 2 * (cntL x.2 : Int) + 1) + (wsz t : Int) = v + (2 + 2 * (cntL x.2 : Int) + (wsz t : Int)) := by omega
            rw [e2] at step
            cases p with
            | none =>
              simp only [hp.no, cond_false, Option.map_none, alt, Bool.true_and]
              exact step
            | some q =>
              simp only [hp.yes, cond_true, hp.idx hbb, Option.bind_some, Option.map_some, alt]
              cases decide (q.1 = x.1) with
              | true => simp
              | false => simp only [cond_false, Bool.not_false, Bool.true_and]; exact step
theorem IsWord_ok (w : Wo) (hw : cntW w < sml) : n_impl_IsWord w = some (wgood w) := by
  have hl := len_cntW w
  exact isWord_loop hw w 0 fuel none 1 (Sf.start w) (Pv.start w) (lt_fuel (by simp only [sml] at hw; omega)) (by omega) (by omega)

end Go.Proofs.YtcaemkcglflmnaaDoor.Vm
