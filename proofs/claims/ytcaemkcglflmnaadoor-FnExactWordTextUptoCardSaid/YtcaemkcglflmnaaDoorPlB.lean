/-
  The laws' own helpers over words: sizes end, copies are the same, what is the same is equal. Conditions: none.
-/
import Derived.Test.YtcaemkcglflmnaaDoorPlA
import Derived.Test.YtcaemkcglflmnaaDoorTr2
namespace Go.Proofs.YtcaemkcglflmnaaDoor.Vm
open Go Go.Proofs Go.RowKit
set_option linter.unusedVariables false
set_option linter.unusedSimpArgs false

theorem lt_fuel {n : Nat} (h : n < 1000000000000) : n < fuel := by rw [fuel_eq]; omega
theorem sz_loop {rf : List T_rI → Int → Option Int} {rf2 : List T_rI → Int → Option Int} {rf3 : List T_rI → Int → Int → Option Int} {l : List T_rI} {L : Int} (hb : l.length < big)
    (hrf : ∀ x ∈ l, ∀ left : Int, -1 ≤ left → left ≤ L → ∃ s, rf3 x.c0 x.c1 left = some s ∧ -1 ≤ s ∧ s ≤ left) :
    ∀ (t : List T_rI) (i : Nat) (k : Nat) (left : Int), Sf l i t → t.length < k → -1 ≤ left → left ≤ L → ∃ s, n_laws_szOrdinalTermS_l16 rf rf2 rf3 k l left i = some s ∧ -1 ≤ s ∧ s ≤ left := by
  intro t
  induction t with
  | nil =>
    intro i k left h hk hl hL
    cases k with
    | zero => simp at hk
    | succ k => exact ⟨left, by simp only [n_laws_szOrdinalTermS_l16, n_laws_szOrdinalTermS_b16, h.ge, cond_false], hl, by omega⟩
  | cons x t ih =>
    intro i k left h hk hl hL
    cases k with
    | zero => simp at hk
    | succ k =>
      obtain ⟨s, hs, hs2, hs3⟩ := hrf x h.mem left hl hL
      simp only [n_laws_szOrdinalTermS_l16, n_laws_szOrdinalTermS_b16, h.lt, cond_true, h.idx, Option.bind_some, hs, h.wr hb]
      cases hc : decide (s < 0) with
      | true => exact ⟨-1, by simp, by omega, by omega⟩
      | false =>
        simp only [cond_false]
        obtain ⟨u, h1, h2, h3⟩ := ih (i + 1) k s h.step (by simp at hk; omega) hs2 (by omega)
        exact ⟨u, h1, h2, by omega⟩
theorem szOrd : ∀ (m : Nat) (l : List T_rI) (left : Int), cntL l < m → m < 1000000000 → -1 ≤ left → left ≤ 1000000000000 → ∀ n, 3 * m ≤ n → ∃ s, n_laws_szOrdinal_N n l left = some s ∧ -1 ≤ s ∧ s ≤ left := by
  intro m
  induction m with
  | zero => intro l left h; omega
  | succ m ih =>
    intro l left h hm hl hL n hn
    obtain ⟨k, rfl⟩ : ∃ k, n = k + 3 := ⟨n - 3, by omega⟩
    have hlen := len_cnt l
    have key : ∃ s, n_laws_szOrdinalTermS_N (k + 2) l left = some s ∧ -1 ≤ s ∧ s ≤ left := by
      simp only [n_laws_szOrdinalTermS_N_succ, n_laws_szOrdinalTermS_B]
      rw [wr_id (by omega) (by omega)]
      cases hc : decide (left - (l.length : Int) < 0) with
      | true => exact ⟨-1, by simp, by omega, by omega⟩
      | false =>
        simp only [cond_false]
        simp only [decide_eq_false_iff_not] at hc
        obtain ⟨s, h1, h2, h3⟩ := sz_loop (rf := n_laws_szOrdinal_N (k + 1)) (rf2 := n_laws_szOrdinalTermS_N (k + 1)) (rf3 := n_laws_szOrdinalTerm_N (k + 1)) (l := l) (L := 1000000000000) (by simp only [big]; omega) (by
          intro x hx left hl hL
          have hc := mem_cnt hx
          obtain ⟨s, h1, h2, h3⟩ := ih x.c0 left (by omega) (by omega) hl hL k (by omega)
          simp only [n_laws_szOrdinalTerm_N_succ, n_laws_szOrdinalTerm_B, h1, Option.bind_some]
          cases hc : decide (s < 0) with
          | true => exact ⟨-1, by simp, by omega, by omega⟩
          | false => exact ⟨s, by simp, h2, h3⟩) l 0 fuel (left - (l.length : Int)) (Sf.start l) (lt_fuel (by omega)) (by omega) (by omega)
        exact ⟨s, h1, h2, by omega⟩
    obtain ⟨s, h1, h2, h3⟩ := key
    simp only [n_laws_szOrdinal_N_succ, n_laws_szOrdinal_B, h1, Option.bind_some]
    cases hc : decide (s < 0) with
    | true => exact ⟨-1, by simp, by omega, by omega⟩
    | false => exact ⟨s, by simp, h2, h3⟩

/-- Words: how many terms and runs. -/
def cntW : List (Bool × List T_rI) → Nat
  | [] => 0
  | r :: w => 1 + cntL r.2 + cntW w
theorem len_cntW : ∀ w, w.length ≤ cntW w
  | [] => by simp
  | r :: w => by have := len_cntW w; simp only [cntW, List.length_cons]; omega
theorem mem_cntW {w : List (Bool × List T_rI)} {x : Bool × List T_rI} (h : x ∈ w) : 1 + cntL x.2 ≤ cntW w := by
  induction w with
  | nil => simp at h
  | cons a l ih =>
    simp only [cntW]
    rcases List.mem_cons.1 h with rfl | h
    · omega
    · have := ih h; omega
abbrev sml : Nat := 100000000

theorem szRun_some (b : Bool) (o : List T_rI) (left : Int) (h : cntL o < sml) (hl : -1 ≤ left) (hL : left ≤ 1000000000000) : ∃ s, n_laws_szRun b o left = some s ∧ -1 ≤ s ∧ s ≤ left := by
  obtain ⟨s, h1, h2, h3⟩ := szOrd (cntL o + 1) o left (by omega) (by simp only [sml] at h; omega) hl hL fuel (by rw [fuel_eq]; simp only [sml] at h; omega)
  simp only [n_laws_szRun, n_laws_szOrdinal, h1, Option.bind_some]
  cases hc : decide (s < 0) with
  | true => exact ⟨-1, by simp, by omega, by omega⟩
  | false => exact ⟨s, by simp, h2, h3⟩
theorem szRunS_loop {w : List (Bool × List T_rI)} (hw : cntW w < sml) :
    ∀ (t : List (Bool × List T_rI)) (i : Nat) (k : Nat) (left : Int), Sf w i t → t.length < k → -1 ≤ left → left ≤ 1000000000000 → ∃ s, n_laws_szRunS_l16 k w left i = some s := by
  have hlen := len_cntW w
  have hb : w.length < big := by simp only [sml] at hw; simp only [big]; omega
  intro t
  induction t with
  | nil =>
    intro i k left h hk hl hL
    cases k with
    | zero => simp at hk
    | succ k => exact ⟨left, by simp only [n_laws_szRunS_l16, n_laws_szRunS_b16, h.ge, cond_false]⟩
  | cons x t ih =>
    intro i k left h hk hl hL
    cases k with
    | zero => simp at hk
    | succ k =>
      have hx := mem_cntW h.mem
      obtain ⟨s, hs, hs2, hs3⟩ := szRun_some x.1 x.2 left (by omega) hl hL
      simp only [n_laws_szRunS_l16, n_laws_szRunS_b16, h.lt, cond_true, h.idx, Option.bind_some, hs, h.wr hb]
      cases hc : decide (s < 0) with
      | true => exact ⟨-1, by simp⟩
      | false => simp only [cond_false]; exact ih (i + 1) k s h.step (by simp at hk; omega) hs2 (by omega)
theorem szWord_some (w : List (Bool × List T_rI)) (hw : cntW w < sml) : ∃ s, n_laws_szWord w 1048576 = some s := by
  have hlen := len_cntW w
  simp only [sml] at hw
  have key : ∃ s, n_laws_szRunS w 1048576 = some s := by
    simp only [n_laws_szRunS]
    rw [wr_id (by omega) (by omega)]
    cases hc : decide ((1048576 : Int) - (w.length : Int) < 0) with
    | true => exact ⟨-1, by simp⟩
    | false =>
      simp only [cond_false]
      simp only [decide_eq_false_iff_not] at hc
      exact szRunS_loop hw w 0 fuel _ (Sf.start w) (lt_fuel (by omega)) (by omega) (by omega)
  obtain ⟨s, h1⟩ := key
  simp only [n_laws_szWord, h1, Option.bind_some]
  cases hc : decide (s < 0) with
  | true => exact ⟨-1, by simp⟩
  | false => exact ⟨s, by simp⟩

/-! ### copies -/
/-- What is written over a list of zeros, from the front on. -/
theorem set_fill {α : Type} {l : List α} {z x : α} {i : Nat} {t : List α} (h : Sf l i (x :: t)) : (l.take i ++ List.replicate (l.length - i) z).set i x = l.take (i + 1) ++ List.replicate (l.length - (i + 1)) z := by
  have hl := h.l
  have hx := h.get
  have hi : i < l.length := by simp at hl; omega
  have e1 : (l.take i).length = i := by simp; omega
  have e2 : l.length - i = (l.length - (i + 1)) + 1 := by omega
  rw [List.set_append_right _ _ (by omega), e1, Nat.sub_self, e2, List.replicate_succ, List.set_cons_zero, List.take_add_one, hx]
  simp
theorem fill_idx {α : Type} {l : List α} {z x : α} {i : Nat} {t : List α} (h : Sf l i (x :: t)) : idx (l.take i ++ List.replicate (l.length - i) z) (i : Int) = some z := by
  have hl := h.l
  have hi : i < l.length := by simp at hl; omega
  have e1 : (l.take i).length = i := by simp; omega
  simp only [idx, Int.natCast_nonneg, if_true, Int.toNat_natCast]
  rw [List.getElem?_append_right (by omega), e1, Nat.sub_self]
  rw [List.getElem?_replicate, if_pos (by omega)]
theorem to_loop {rf : List T_rI → Option (List T_rI)} {rf2 : List T_rI → Option (List T_rI)} {rf3 : List T_rI → Int → Option (List T_rI × Int)} {l : List T_rI} (hb : l.length < big) (hrf : ∀ x ∈ l, rf3 x.c0 x.c1 = some (x.c0, x.c1)) :
    ∀ (t : List T_rI) (i : Nat) (k : Nat), Sf l i t → t.length < k → n_laws_toOrdinalTermS_l8 rf rf2 rf3 k l i (l.take i ++ List.replicate (l.length - i) (T_rI.mk [] 0)) = some l := by
  intro t
  induction t with
  | nil =>
    intro i k h hk
    cases k with
    | zero => simp at hk
    | succ k =>
      have := h.l
      simp at this
      subst this
      simp [n_laws_toOrdinalTermS_l8, n_laws_toOrdinalTermS_b8]
  | cons x t ih =>
    intro i k h hk
    cases k with
    | zero => simp at hk
    | succ k =>
      simp only [n_laws_toOrdinalTermS_l8, n_laws_toOrdinalTermS_b8, h.lt, cond_true, h.idx, Option.bind_some, hrf x h.mem, fill_idx h, h.wr hb, Int.toNat_natCast, T_rI.eta, set_fill h]
      exact ih (i + 1) k h.step (by simp at hk; omega)
theorem toOrd : ∀ (m : Nat) (l : List T_rI), cntL l < m → m < 1000000000 → ∀ n, 3 * m ≤ n → n_laws_toOrdinal_N n l = some l := by
  intro m
  induction m with
  | zero => intro l h; omega
  | succ m ih =>
    intro l h hm n hn
    obtain ⟨k, rfl⟩ : ∃ k, n = k + 3 := ⟨n - 3, by omega⟩
    have hlen := len_cnt l
    have key : n_laws_toOrdinalTermS_N (k + 2) l = some l := by
      rw [n_laws_toOrdinalTermS_N_succ]
      simp only [n_laws_toOrdinalTermS_B]
      rw [mkn_ok (by omega), Option.bind_some]
      have := to_loop (rf := n_laws_toOrdinal_N (k + 1)) (rf2 := n_laws_toOrdinalTermS_N (k + 1)) (rf3 := n_laws_toOrdinalTerm_N (k + 1)) (l := l) (by simp only [big]; omega) (by
        intro x hx
        have hc := mem_cnt hx
        simp only [n_laws_toOrdinalTerm_N_succ, n_laws_toOrdinalTerm_B, ih x.c0 (by omega) (by omega) k (by omega), Option.bind_some]) l 0 fuel (Sf.start l) (lt_fuel (by omega))
      simpa using this
    simp only [n_laws_toOrdinal_N_succ, n_laws_toOrdinal_B, key, Option.bind_some]
theorem toRun_same (b : Bool) (o : List T_rI) (h : cntL o < sml) : n_laws_toRun b o = some (b, o) := by
  simp only [n_laws_toRun, n_laws_toOrdinal, toOrd (cntL o + 1) o (by omega) (by simp only [sml] at h; omega) fuel (by rw [fuel_eq]; simp only [sml] at h; omega), Option.bind_some]
theorem toRunS_loop {w : List (Bool × List T_rI)} (hw : cntW w < sml) :
    ∀ (t : List (Bool × List T_rI)) (i : Nat) (k : Nat), Sf w i t → t.length < k → n_laws_toRunS_l8 k w i (w.take i ++ List.replicate (w.length - i) (false, [])) = some w := by
  have hlen := len_cntW w
  have hb : w.length < big := by simp only [sml] at hw; simp only [big]; omega
  intro t
  induction t with
  | nil =>
    intro i k h hk
    cases k with
    | zero => simp at hk
    | succ k =>
      have := h.l
      simp at this
      subst this
      simp [n_laws_toRunS_l8, n_laws_toRunS_b8]
  | cons x t ih =>
    intro i k h hk
    cases k with
    | zero => simp at hk
    | succ k =>
      have hx := mem_cntW h.mem
      simp only [n_laws_toRunS_l8, n_laws_toRunS_b8, h.lt, cond_true, h.idx, Option.bind_some, toRun_same x.1 x.2 (by omega), fill_idx h, h.wr hb, Int.toNat_natCast, set_fill h]
      exact ih (i + 1) k h.step (by simp at hk; omega)
theorem toWord_same (w : List (Bool × List T_rI)) (hw : cntW w < sml) : n_laws_toWord w = some w := by
  have hlen := len_cntW w
  simp only [sml] at hw
  simp only [n_laws_toWord, n_laws_toRunS]
  rw [mkn_ok (by omega), Option.bind_some]
  have := toRunS_loop hw w 0 fuel (Sf.start w) (lt_fuel (by omega))
  simp at this
  rw [this, Option.bind_some]

/-! ### what is the same is equal -/
theorem eq_loop {rf : List T_rI → List T_rI → Option Bool} {rf2 : List T_rI → List T_rI → Option Bool} {rf3 : List T_rI → Int → List T_rI → Int → Option Bool} {l : List T_rI} (hb : l.length < big) (hrf : ∀ x ∈ l, rf3 x.c0 x.c1 x.c0 x.c1 = some true) :
    ∀ (t : List T_rI) (i : Nat) (k : Nat), Sf l i t → t.length < k → n_laws_eqOrdinalTermS_l14 rf rf2 rf3 k l l i = some true := by
  intro t
  induction t with
  | nil =>
    intro i k h hk
    cases k with
    | zero => simp at hk
    | succ k => simp only [n_laws_eqOrdinalTermS_l14, n_laws_eqOrdinalTermS_b14, h.ge, cond_false]
  | cons x t ih =>
    intro i k h hk
    cases k with
    | zero => simp at hk
    | succ k =>
      simp only [n_laws_eqOrdinalTermS_l14, n_laws_eqOrdinalTermS_b14, h.lt, cond_true, h.idx, Option.bind_some, hrf x h.mem, h.wr hb]
      exact ih (i + 1) k h.step (by simp at hk; omega)
theorem eqOrd : ∀ (m : Nat) (l : List T_rI), cntL l < m → m < 1000000000 → ∀ n, 3 * m ≤ n → n_laws_eqOrdinal_N n l l = some true := by
  intro m
  induction m with
  | zero => intro l h; omega
  | succ m ih =>
    intro l h hm n hn
    obtain ⟨k, rfl⟩ : ∃ k, n = k + 3 := ⟨n - 3, by omega⟩
    have hlen := len_cnt l
    have key : n_laws_eqOrdinalTermS_N (k + 2) l l = some true := by
      simp only [n_laws_eqOrdinalTermS_N_succ, n_laws_eqOrdinalTermS_B, decide_true, cond_true]
      exact eq_loop (by simp only [big]; omega) (by
        intro x hx
        have hc := mem_cnt hx
        simp only [n_laws_eqOrdinalTerm_N_succ, n_laws_eqOrdinalTerm_B, ih x.c0 (by omega) (by omega) k (by omega), Option.bind_some, cond_true, decide_true]) l 0 fuel (Sf.start l) (lt_fuel (by omega))
    simp only [n_laws_eqOrdinal_N_succ, n_laws_eqOrdinal_B, key, Option.bind_some, cond_true]
theorem eqRun_same (b : Bool) (o : List T_rI) (h : cntL o < sml) : n_laws_eqRun b o b o = some true := by
  simp only [n_laws_eqRun, decide_true, cond_true, n_laws_eqOrdinal, eqOrd (cntL o + 1) o (by omega) (by simp only [sml] at h; omega) fuel (by rw [fuel_eq]; simp only [sml] at h; omega), Option.bind_some]
theorem eqRunS_loop {w : List (Bool × List T_rI)} (hw : cntW w < sml) :
    ∀ (t : List (Bool × List T_rI)) (i : Nat) (k : Nat), Sf w i t → t.length < k → n_laws_eqRunS_l14 k w w i = some true := by
  have hlen := len_cntW w
  have hb : w.length < big := by simp only [sml] at hw; simp only [big]; omega
  intro t
  induction t with
  | nil =>
    intro i k h hk
    cases k with
    | zero => simp at hk
    | succ k => simp only [n_laws_eqRunS_l14, n_laws_eqRunS_b14, h.ge, cond_false]
  | cons x t ih =>
    intro i k h hk
    cases k with
    | zero => simp at hk
    | succ k =>
      have hx := mem_cntW h.mem
      simp only [n_laws_eqRunS_l14, n_laws_eqRunS_b14, h.lt, cond_true, h.idx, Option.bind_some, eqRun_same x.1 x.2 (by omega), h.wr hb]
      exact ih (i + 1) k h.step (by simp at hk; omega)
theorem eqWord_same (w : List (Bool × List T_rI)) (hw : cntW w < sml) : n_laws_eqWord w w = some true := by
  have hlen := len_cntW w
  simp only [sml] at hw
  have e : n_laws_eqRunS_l14 fuel w w 0 = some true := eqRunS_loop hw w 0 fuel (Sf.start w) (lt_fuel (by omega))
  simp only [n_laws_eqWord, n_laws_eqRunS, decide_true, cond_true, e, Option.bind_some]

end Go.Proofs.YtcaemkcglflmnaaDoor.Vm
