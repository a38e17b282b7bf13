/-
  Texts of ordinals and words, by the program and by its specification. Conditions: none.
-/
import Derived.Test.YtcaemkcglflmnaaDoorPlD
import Derived.Lib.Join
import Derived.Lib.ItoaLen
namespace Go.Proofs.YtcaemkcglflmnaaDoor.Vm
open Go Go.Proofs Go.RowKit
set_option linter.unusedVariables false
set_option linter.unusedSimpArgs false

def bs (l : List UInt8) : ByteArray := ⟨l.toArray⟩
theorem bs_size (l : List UInt8) : (bs l).size = l.length := by simp [bs, ByteArray.size]
theorem bs_data (l : List UInt8) : (bs l).data.toList = l := by simp [bs]
theorem bs_app (l m : List UInt8) : bs l ++ bs m = bs (l ++ m) := by
  apply ByteArray.ext
  rw [ByteArray.data_append]
  simp [bs]
theorem bs_inj {l m : List UInt8} : bs l = bs m ↔ l = m := by
  constructor
  · intro h; have := congrArg (fun s => s.data.toList) h; simpa [bs] using this
  · rintro rfl; rfl
theorem bs_nil (l : List UInt8) : decide (bs l = (⟨#[]⟩ : ByteArray)) = l.isEmpty := by
  have e : (⟨#[]⟩ : ByteArray) = bs [] := rfl
  rw [e]
  cases l with
  | nil => simp
  | cons a l => simp [bs_inj]
theorem cats_bs {l m : List UInt8} (h : l.length + m.length ≤ 9223372036854775807) : cats (bs l) (bs m) = some (bs (l ++ m)) := by
  unfold cats
  rw [if_pos (by rw [bs_size, bs_size]; exact h), bs_app]
theorem k43 : (⟨#[43]⟩ : ByteArray) = bs [43] := rfl
theorem k45 : (⟨#[45]⟩ : ByteArray) = bs [45] := rfl
theorem k42 : (⟨#[42]⟩ : ByteArray) = bs [42] := rfl
theorem k40 : (⟨#[40]⟩ : ByteArray) = bs [40] := rfl
theorem k41 : (⟨#[41]⟩ : ByteArray) = bs [41] := rfl
theorem k48 : (⟨#[48]⟩ : ByteArray) = bs [48] := rfl
theorem k119 : (⟨#[119]⟩ : ByteArray) = bs [119] := rfl
theorem k9440 : (⟨#[94, 40]⟩ : ByteArray) = bs [94, 40] := rfl
theorem k0 : (⟨#[]⟩ : ByteArray) = bs [] := rfl

theorem strn1 (n : Nat) (h : n < 10) : strn [IntKind.u8.wrap (wr (48 + (n : Int)))] = bs [UInt8.ofNat (48 + n)] := by
  rw [wr_id (by omega) (by omega)]
  have e : IntKind.u8.wrap (48 + (n : Int)) = ((48 + n : Nat) : Int) := by
    simp only [IntKind.wrap, IntKind.bits, IntKind.signed]
    first | (simp; omega) | omega
  rw [e]
  simp only [strn, List.foldl_cons, List.foldl_nil, Int.toNat_natCast]
  rfl
theorem num_ok : ∀ (m n : Nat), n < m → n < 1000000000000000000 → ∀ k, m ≤ k → n_spec_l1Num_N k (n : Int) = some (bs (Lib.decDigits n)) := by
  intro m
  induction m with
  | zero => intro n h; omega
  | succ m ih =>
    intro n h hn k hk
    obtain ⟨k, rfl⟩ : ∃ j, k = j + 1 := ⟨k - 1, by omega⟩
    simp only [n_spec_l1Num_N, n_spec_l1Num_B]
    rw [Lib.decDigits]
    by_cases h1 : n < 10
    · have h2 : (n : Int) < 10 := by omega
      rw [dif_pos h1, decide_eq_true h2, strn1 n h1]
      rfl
    · have h2 : ¬ (n : Int) < 10 := by omega
      have e1 : Int.tdiv (n : Int) 10 = ((n / 10 : Nat) : Int) := by
        rw [Int.tdiv_eq_ediv_of_nonneg (by omega)]; omega
      have e2 : Int.tmod (n : Int) 10 = ((n % 10 : Nat) : Int) := by
        rw [Int.tmod_eq_emod_of_nonneg (by omega)]; omega
      rw [dif_neg h1, decide_eq_false h2, e1, e2, wr_id (n := ((n / 10 : Nat) : Int)) (by omega) (by omega), ih (n / 10) (by omega) (by omega) k (by omega), strn1 (n % 10) (by omega)]
      have hl := Lib.itoa_length_le ((n / 10 : Nat) : Int) (by omega) (by omega)
      rw [Lib.itoa, if_neg (by omega), Int.toNat_natCast] at hl
      simp only [cond_false, Option.bind_some]
      rw [cats_bs (by simp; omega), Option.bind_some, bs_app]
theorem l1Num_ok {c : Int} (h1 : 1 ≤ c) (h2 : c ≤ 1000000) : n_spec_l1Num c = some (bs (Lib.itoa c)) := by
  obtain ⟨n, rfl⟩ : ∃ n : Nat, c = (n : Int) := ⟨c.toNat, by omega⟩
  rw [Lib.itoa, if_neg (by omega), Int.toNat_natCast]
  exact num_ok (n + 1) n (by omega) (by omega) fuel (by rw [fuel_eq]; omega)
theorem Itoa_ok {c : Int} (h1 : 1 ≤ c) (h2 : c ≤ 1000000) : n_strconv_Itoa c = some (bs (Lib.itoa c)) := by
  unfold n_strconv_Itoa
  rw [if_pos (by omega)]
  rfl
theorem itoa_ne (c : Int) : Lib.itoa c ≠ [] := by
  unfold Lib.itoa
  split
  · simp
  · rw [Lib.decDigits]; split <;> simp
theorem itoa_len {c : Int} (h1 : 1 ≤ c) (h2 : c ≤ 1000000) : (Lib.itoa c).length ≤ 21 := Lib.itoa_length_le c (by omega) (by omega)

abbrev one : List T_rI := [T_rI.mk [] 1]
def jn (l : List (List UInt8)) : List UInt8 := if l.isEmpty then [48] else Lib.join l [43]
mutual
def ttxt : T_rI → List UInt8
  | .mk e c => if e.isEmpty then Lib.itoa c else ([119] ++ (if ocmp e one = 0 then [] else ([94, 40] ++ jn (txts e)) ++ [41])) ++ (if c = 1 then [] else [42] ++ Lib.itoa c)
def txts : List T_rI → List (List UInt8)
  | [] => []
  | t :: l => ttxt t :: txts l
end
def txt (l : List T_rI) : List UInt8 := jn (txts l)
theorem ttxt_eq (t : T_rI) : ttxt t = if t.c0.isEmpty then Lib.itoa t.c1 else ([119] ++ (if ocmp t.c0 one = 0 then [] else ([94, 40] ++ txt t.c0) ++ [41])) ++ (if t.c1 = 1 then [] else [42] ++ Lib.itoa t.c1) := by
  cases t; simp only [ttxt, txt]; rfl
theorem ttxt_ne (t : T_rI) : ttxt t ≠ [] := by
  rw [ttxt_eq]
  split
  · exact itoa_ne _
  · simp
theorem txts_len : ∀ l, (txts l).length = l.length
  | [] => rfl
  | t :: l => by simp only [txts, List.length_cons, txts_len l]
theorem txt_len : ∀ (m : Nat) (l : List T_rI), cntL l < m → rng l = true → Lib.lens (txts l) + l.length ≤ 40 * cntL l := by
  intro m
  induction m with
  | zero => intro l h; omega
  | succ m ih =>
    intro l h hr
    cases l with
    | nil => simp [txts, Lib.lens, cntL_nil]
    | cons t l =>
      rw [cntL_cons] at h ⊢
      obtain ⟨r1, r2, r3⟩ := rng_mem hr (List.mem_cons_self ..)
      have hr' : rng l = true := by simp only [rng, Bool.and_eq_true] at hr; exact hr.2
      have h1 := ih t.c0 (by omega) r3
      have h2 := ih l (by omega) hr'
      have h3 := itoa_len r1 r2
      have h4 : (txt t.c0).length ≤ 40 * cntL t.c0 + 1 := by
        simp only [txt, jn]
        split
        · simp
        · cases he : txts t.c0 with
          | nil => simp [Lib.join, List.intercalate]
          | cons a b =>
            rw [Lib.join_length]
            have h5 := txts_len t.c0
            rw [he] at h5 h1
            simp only [List.length_cons, List.length_nil] at h5 ⊢
            omega
      have h5 : (ttxt t).length ≤ 40 * cntL t.c0 + 27 := by
        rw [ttxt_eq]
        split
        · omega
        · split <;> split <;> simp <;> omega
      simp only [txts, Lib.lens, List.map_cons, List.sum_cons, List.length_cons] at h2 ⊢
      omega
theorem jn_len (l : List T_rI) (hr : rng l = true) : (txt l).length ≤ 40 * cntL l + 1 := by
  have h1 := txt_len (cntL l + 1) l (by omega) hr
  simp only [txt, jn]
  split
  · simp
  · cases he : txts l with
    | nil => simp [Lib.join, List.intercalate]
    | cons a b =>
      rw [Lib.join_length]
      have h5 := txts_len l
      rw [he] at h5 h1
      simp only [List.length_cons, List.length_nil] at h5 ⊢
      omega

theorem finite1 : n_impl_finite 1 = some one := by
  simp only [n_impl_finite]; rfl
theorem odInt1 : n_spec_odInt 1 = some one := by
  simp only [n_spec_odInt, n_spec_odTerm]; rfl

theorem text_loop {rf : List T_rI → ByteArray → Option ByteArray} {a : List T_rI} (hb : cntL a < sml) (ra : rng a = true) (hrf : ∀ x ∈ a, rf x.c0 (bs [119]) = some (bs (txt x.c0))) :
    ∀ (t : List T_rI) (i : Nat) (k : Nat) (acc : List (List UInt8)), Sf a i t → t.length < k → acc ++ txts t = txts a → n_impl_ordinalText_l8 rf k (bs [119]) a i (acc.map bs) = some (bs (txt a)) := by
  have hl := len_cnt a
  have hbb : a.length < big := by simp only [sml] at hb; simp only [big]; omega
  have hla := txts_len a
  have hlen := txt_len (cntL a + 1) a (by omega) ra
  simp only [sml] at hb
  intro t
  induction t with
  | nil =>
    intro i k acc h hk he
    cases k with
    | zero => simp at hk
    | succ k =>
      simp only [n_impl_ordinalText_l8, n_impl_ordinalText_b8, h.ge, cond_false, List.length_map, k48, k43]
      simp only [txts, List.append_nil] at he
      subst he
      simp only [txt, jn]
      cases hc : txts a with
      | nil => simp
      | cons y r =>
        have e1 : decide (((y :: r).length : Int) = 0) = false := by simp; omega
        rw [e1]
        simp only [cond_false, n_strings_Join, List.map_map]
        have e2 : (y :: r).map ((fun x => x.data.toList) ∘ bs) = y :: r := by
          rw [List.map_congr_left (g := id) (fun x _ => by simp [bs_data])]; simp
        have h1 : ((y :: r).map bs).length ≤ 140737488355328 := by rw [hc] at hla; rw [List.length_map]; omega
        have h2 : (Lib.join (y :: r) [43]).length ≤ 140737488355328 := by
          rw [Lib.join_length]
          rw [hc] at hla hlen
          simp only [List.length_cons, List.length_nil] at hla ⊢
          omega
        rw [bs_data, e2, if_pos ⟨h1, h2⟩]
        rfl
  | cons x t ih =>
    intro i k acc h hk he
    cases k with
    | zero => simp at hk
    | succ k =>
      obtain ⟨r1, r2, r3⟩ := rng_mem ra h.mem
      have hxc := mem_cnt h.mem
      have hd := itoa_len r1 r2
      have hj := jn_len x.c0 r3
      have hacc : acc.length ≤ a.length := by rw [← hla, ← he]; simp
      have next : ∀ y : List UInt8, y = ttxt x → n_impl_ordinalText_l8 rf k (bs [119]) a ((i + 1 : Nat) : Int) ((acc ++ [y]).map bs) = some (bs (txt a)) := by
        rintro y rfl
        refine ih (i + 1) k (acc ++ [ttxt x]) h.step (by simp at hk; omega) ?_
        rw [← he]; simp [txts]
      have app : ∀ y : List UInt8, appn 16 (acc.map bs) [bs y] = some ((acc ++ [y]).map bs) := by
        intro y
        rw [appn_ok (by simp only [List.length_map, List.length_cons, List.length_nil]; omega)]
        simp
      have hte := ttxt_eq x
      simp only [n_impl_ordinalText_l8, n_impl_ordinalText_b8, h.lt, cond_true, h.idx, Option.bind_some, isZero_ok, h.wr hbb, k48, k43, k42, k41, k9440]
      cases hz : x.c0 with
      | nil =>
        rw [hz] at hte
        simp only [List.length_nil, decide_true, cond_true, Itoa_ok r1 r2, Option.bind_some, app]
        exact next _ (by rw [hte]; try simp)
      | cons z zs =>
        have e1 : decide ((z :: zs).length = 0) = false := by simp
        rw [e1, ← hz]
        rw [hz] at hte
        simp only [List.isEmpty_cons, Bool.false_eq_true, if_false] at hte
        rw [← hz] at hte
        simp only [cond_false, finite1, Option.bind_some, cmp_ok x.c0 one (by simp only [sml]; omega), n_impl_ordinalText_j34]
        by_cases hc : ocmp x.c0 one = 0
        · rw [decide_eq_true hc]
          rw [if_pos hc] at hte
          simp only [cond_true]
          by_cases h1 : x.c1 = 1
          · rw [decide_eq_true h1]
            rw [if_pos h1] at hte
            simp only [cond_true, app, Option.bind_some, h.wr hbb]
            exact next _ (by rw [hte]; try simp)
          · rw [decide_eq_false h1]
            rw [if_neg h1] at hte
            simp only [cond_false, Itoa_ok r1 r2, Option.bind_some, h.wr hbb, bs_app, k42]
            rw [cats_bs (by simp; omega), Option.bind_some, cats_bs (by simp; omega), Option.bind_some, app, Option.bind_some]
            exact next _ (by rw [hte]; try simp)
        · rw [decide_eq_false hc]
          rw [if_neg hc] at hte
          simp only [cond_false, hrf x h.mem, Option.bind_some, bs_app]
          rw [cats_bs (by simp; omega), Option.bind_some, cats_bs (by simp; omega), Option.bind_some, cats_bs (by simp; omega), Option.bind_some]
          by_cases h1 : x.c1 = 1
          · rw [decide_eq_true h1]
            rw [if_pos h1] at hte
            simp only [cond_true, app, Option.bind_some, h.wr hbb]
            exact next _ (by rw [hte]; try simp)
          · rw [decide_eq_false h1]
            rw [if_neg h1] at hte
            simp only [cond_false, Itoa_ok r1 r2, Option.bind_some, h.wr hbb, bs_app, k42]
            rw [cats_bs (by simp; omega), Option.bind_some, cats_bs (by simp; omega), Option.bind_some, app, Option.bind_some]
            exact next _ (by rw [hte]; try simp)
theorem text_ok : ∀ (m : Nat) (a : List T_rI), cntL a < m → m ≤ sml → rng a = true → ∀ n, m ≤ n → n_impl_ordinalText_N n a (bs [119]) = some (bs (txt a)) := by
  intro m
  induction m with
  | zero => intro a h; omega
  | succ m ih =>
    intro a h hm hr n hn
    obtain ⟨k, rfl⟩ : ∃ k, n = k + 1 := ⟨n - 1, by omega⟩
    have hlen := len_cnt a
    simp only [n_impl_ordinalText_N, n_impl_ordinalText_B]
    exact text_loop (by omega) hr (by
      intro x hx
      have hc := mem_cnt hx
      exact ih x.c0 (by omega) (by omega) (rng_mem hr hx).2.2 k (by omega)) a 0 fuel [] (Sf.start a) (lt_fuel (by simp only [sml] at hm; omega)) (by simp)
theorem ordinalText_ok (a : List T_rI) (hb : cntL a < sml) (hr : rng a = true) : n_impl_ordinalText a (bs [119]) = some (bs (txt a)) :=
  text_ok (cntL a + 1) a (by omega) (by omega) hr fuel (by rw [fuel_eq]; simp only [sml] at hb; omega)

/-! ### the specification's -/
theorem joinTail_cons (x : List UInt8) (r : List (List UInt8)) : Lib.joinTail [43] (x :: r) = [43] ++ (x ++ Lib.joinTail [43] r) := by simp [Lib.joinTail]
theorem joinTail_nil : Lib.joinTail [43] [] = [] := rfl
theorem stext_loop {rf : List T_rI → Option ByteArray} {a : List T_rI} (hb : cntL a < sml) (ra : rng a = true) (hrf : ∀ x ∈ a, rf x.c0 = some (bs (txt x.c0))) :
    ∀ (t : List T_rI) (i : Nat) (k : Nat) (o : List UInt8), Sf a i t → t.length < k → ((i = 0 ∧ o = [] ∧ t = a) ∨ (i ≠ 0 ∧ o ≠ [] ∧ o ++ Lib.joinTail [43] (txts t) = Lib.join (txts a) [43])) → o.length ≤ 100000000000 - 100 * cntL t → n_spec_odText_l8 rf k (bs o) a i = some (bs (txt a)) := by
  have hl := len_cnt a
  have hbb : a.length < big := by simp only [sml] at hb; simp only [big]; omega
  simp only [sml] at hb
  intro t
  induction t with
  | nil =>
    intro i k o h hk ho hol
    cases k with
    | zero => simp at hk
    | succ k =>
      simp only [n_spec_odText_l8, n_spec_odText_b8, h.ge, cond_false, bs_nil]
      rcases ho with ⟨rfl, rfl, rfl⟩ | ⟨h1, h2, h3⟩
      · simp [txt, jn, txts, k48]
      · have e1 : o.isEmpty = false := by cases o with | nil => exact absurd rfl h2 | cons a b => rfl
        rw [e1]
        simp only [txts, joinTail_nil, List.append_nil] at h3
        simp only [cond_false, txt, jn]
        rw [h3]
        cases hc : txts a with
        | nil => rw [hc] at h3; exact absurd h3 h2
        | cons y r => rfl
  | cons x t ih =>
    intro i k o h hk ho hol
    cases k with
    | zero => simp at hk
    | succ k =>
      obtain ⟨r1, r2, r3⟩ := rng_mem ra h.mem
      have hxc := mem_cnt h.mem
      have hd := itoa_len r1 r2
      have hj := jn_len x.c0 r3
      rw [cntL_cons] at hol
      have htc := h.cnt
      rw [cntL_cons] at htc
      -- what stands before the term
      have mid : ∃ o' : List UInt8, (o' = if i = 0 then [] else o ++ [43]) ∧ o'.length ≤ o.length + 1 ∧ n_spec_odText_l8 rf (k + 1) (bs o) a i = n_spec_odText_j25 rf (n_spec_odText_l8 rf k) (bs o') a i x := by
        refine ⟨_, rfl, by split <;> simp, ?_⟩
        simp only [n_spec_odText_l8, n_spec_odText_b8, h.lt, cond_true, h.idx, Option.bind_some, k43]
        rcases ho with ⟨rfl, rfl, _⟩ | ⟨h1, h2, h3⟩
        · simp
        · have e1 : decide ((i : Int) > 0) = true := decide_eq_true (by omega)
          rw [e1]
          simp only [cond_true, h1, if_false]
          rw [cats_bs (by simp; omega), Option.bind_some, bs_app]
      obtain ⟨o', e', l', hm⟩ := mid
      rw [hm]
      have next : ∀ y : List UInt8, y = o' ++ ttxt x → y.length ≤ 100000000000 - 100 * cntL t → n_spec_odText_l8 rf k (bs y) a ((i + 1 : Nat) : Int) = some (bs (txt a)) := by
        rintro y rfl hy
        refine ih (i + 1) k _ h.step (by simp at hk; omega) (.inr ⟨by omega, by simp [ttxt_ne], ?_⟩) hy
        rw [e']
        rcases ho with ⟨rfl, rfl, e3⟩ | ⟨h1, h2, h3⟩
        · rw [← e3]; simp [txts, Lib.join_cons]
        · rw [← h3, if_neg h1]; simp [txts, joinTail_cons]
      have hte := ttxt_eq x
      simp only [n_spec_odText_j25, odZero_ok, Option.bind_some, k119, k9440, k41]
      cases hz : x.c0 with
      | nil =>
        rw [hz] at hte
        simp only [List.length_nil, decide_true, cond_true, l1Num_ok r1 r2, Option.bind_some]
        rw [cats_bs (by omega), Option.bind_some, bs_app, h.wr hbb]
        exact next _ (by rw [hte]; try simp) (by simp; omega)
      | cons z zs =>
        have e1 : decide ((z :: zs).length = 0) = false := by simp
        rw [e1, ← hz]
        rw [hz] at hte
        simp only [List.isEmpty_cons, Bool.false_eq_true, if_false] at hte
        rw [← hz] at hte
        simp only [cond_false]
        rw [cats_bs (by simp; omega)]
        simp only [odInt1, Option.bind_some, scmp_ok x.c0 one (by simp only [sml]; omega) r3 (by simp [rng, rngT]), n_spec_odText_j41, k42, bs_app]
        by_cases hc : ocmp x.c0 one = 0
        · rw [decide_eq_true hc]
          rw [if_pos hc] at hte
          simp only [cond_true]
          by_cases h1 : x.c1 = 1
          · have h2 : ¬ x.c1 > 1 := by omega
            rw [decide_eq_false h2, h.wr hbb]
            rw [if_pos h1] at hte
            exact next _ (by rw [hte]; try simp) (by simp; omega)
          · have h2 : x.c1 > 1 := by omega
            rw [decide_eq_true h2]
            rw [if_neg h1] at hte
            simp only [cond_true, l1Num_ok r1 r2, Option.bind_some]
            rw [cats_bs (by simp; omega), Option.bind_some, bs_app, cats_bs (by simp; omega), Option.bind_some, bs_app, h.wr hbb]
            exact next _ (by rw [hte]; try simp) (by simp; omega)
        · rw [decide_eq_false hc]
          rw [if_neg hc] at hte
          simp only [cond_false, hrf x h.mem, Option.bind_some]
          rw [cats_bs (by simp; omega), Option.bind_some, bs_app, cats_bs (by simp; omega), Option.bind_some, bs_app, cats_bs (by simp; omega), Option.bind_some, bs_app]
          by_cases h1 : x.c1 = 1
          · have h2 : ¬ x.c1 > 1 := by omega
            rw [decide_eq_false h2, h.wr hbb]
            rw [if_pos h1] at hte
            exact next _ (by rw [hte]; try simp) (by simp; omega)
          · have h2 : x.c1 > 1 := by omega
            rw [decide_eq_true h2]
            rw [if_neg h1] at hte
            simp only [cond_true, l1Num_ok r1 r2, Option.bind_some]
            rw [cats_bs (by simp; omega), Option.bind_some, bs_app, cats_bs (by simp; omega), Option.bind_some, bs_app, h.wr hbb]
            exact next _ (by rw [hte]; try simp) (by simp; omega)
theorem stext_ok : ∀ (m : Nat) (a : List T_rI), cntL a < m → m ≤ sml → rng a = true → ∀ n, m ≤ n → n_spec_odText_N n a = some (bs (txt a)) := by
  intro m
  induction m with
  | zero => intro a h; omega
  | succ m ih =>
    intro a h hm hr n hn
    obtain ⟨k, rfl⟩ : ∃ k, n = k + 1 := ⟨n - 1, by omega⟩
    have hlen := len_cnt a
    simp only [n_spec_odText_N, n_spec_odText_B, k0]
    exact stext_loop (by omega) hr (by
      intro x hx
      have hc := mem_cnt hx
      exact ih x.c0 (by omega) (by omega) (rng_mem hr hx).2.2 k (by omega)) a 0 fuel [] (Sf.start a) (lt_fuel (by simp only [sml] at hm; omega)) (.inl ⟨rfl, rfl, rfl⟩) (by simp only [sml] at hm; simp <;> omega)
theorem odText_ok (a : List T_rI) (hb : cntL a < sml) (hr : rng a = true) : n_spec_odText a = some (bs (txt a)) :=
  stext_ok (cntL a + 1) a (by omega) (by omega) hr fuel (by rw [fuel_eq]; simp only [sml] at hb; omega)

/-! ### texts of words -/
def wtxt : Wo → List UInt8
  | [] => []
  | r :: w => ((if r.1 then [43] else [45]) ++ (if ocmp r.2 one = 0 then [] else ([40] ++ txt r.2) ++ [41])) ++ wtxt w
def fin0 (l : List UInt8) : List UInt8 := if l.isEmpty then [48] else l
theorem wform_rng : ∀ {w : Wo} {q : Option Bool}, wform w q = true → ∀ x ∈ w, rng x.2 = true
  | [], q, _, x, hx => by simp at hx
  | r :: w, q, h, x, hx => by
    simp only [wform, Bool.and_eq_true] at h
    rcases List.mem_cons.1 hx with rfl | hx
    · exact form_rng (good_form h.1)
    · exact wform_rng h.2.2.2 x hx
theorem wtext_loop {w : Wo} (hw : cntW w < sml) (hr : ∀ x ∈ w, rng x.2 = true) :
    ∀ (t : Wo) (i : Nat) (k : Nat) (o : List UInt8), Sf w i t → t.length < k → o.length + 100 * cntW t ≤ 100000000000 → n_impl_WordText_l16 k (bs o) w i = some (bs (fin0 (o ++ wtxt t)), true) := by
  have hl := len_cntW w
  have hbb : w.length < big := by simp only [sml] at hw; simp only [big]; omega
  intro t
  induction t with
  | nil =>
    intro i k o h hk ho
    cases k with
    | zero => simp at hk
    | succ k =>
      simp only [n_impl_WordText_l16, n_impl_WordText_b16, h.ge, cond_false, bs_nil, wtxt, List.append_nil, fin0, k48]
      cases o <;> rfl
  | cons x t ih =>
    intro i k o h hk ho
    cases k with
    | zero => simp at hk
    | succ k =>
      have hx := mem_cntW h.mem
      have rx := hr x h.mem
      have hj := jn_len x.2 rx
      have ho' : o.length + 100 * (1 + cntL x.2 + cntW t) ≤ 100000000000 := by simpa only [cntW] using ho
      have one1 : ∀ c : UInt8, n_impl_WordText_j35 (n_impl_WordText_l16 k) (bs o) (bs [c]) w i x = some (bs (fin0 (o ++ ([c] ++ (if ocmp x.2 one = 0 then [] else ([40] ++ txt x.2) ++ [41]) ++ wtxt t))), true) := by
        intro c
        simp only [n_impl_WordText_j35, k119, k40, k41]
        rw [cats_bs (by simp; omega)]
        simp only [finite1, Option.bind_some, cmp_ok x.2 one (by omega), bs_app]
        by_cases hc : ocmp x.2 one = 0
        · rw [decide_eq_true hc, if_pos hc, h.wr hbb]
          simp only [cond_true]
          rw [ih (i + 1) k _ h.step (by simp at hk; omega) (by simp; omega)]
          simp
        · rw [decide_eq_false hc, if_neg hc]
          simp only [cond_false, ordinalText_ok x.2 (by omega) rx, Option.bind_some]
          simp only [sml] at hw
          rw [cats_bs (by simp; omega), Option.bind_some, bs_app, cats_bs (by simp; omega), Option.bind_some, bs_app, cats_bs (by simp; omega), Option.bind_some, bs_app, h.wr hbb, ih (i + 1) k _ h.step (by simp at hk; omega) (by simp; omega)]
          simp
      simp only [n_impl_WordText_l16, n_impl_WordText_b16, h.lt, cond_true, h.idx, Option.bind_some, k43, k45, one1, wtxt]
      cases x.1 <;> simp
theorem swtext_loop {w : Wo} (hw : cntW w < sml) (hr : ∀ x ∈ w, rng x.2 = true) :
    ∀ (t : Wo) (i : Nat) (k : Nat) (o : List UInt8), Sf w i t → t.length < k → o.length + 100 * cntW t ≤ 100000000000 → n_spec_woText_l8 k (bs o) w i = some (bs (fin0 (o ++ wtxt t))) := by
  have hl := len_cntW w
  have hbb : w.length < big := by simp only [sml] at hw; simp only [big]; omega
  intro t
  induction t with
  | nil =>
    intro i k o h hk ho
    cases k with
    | zero => simp at hk
    | succ k =>
      simp only [n_spec_woText_l8, n_spec_woText_b8, h.ge, cond_false, bs_nil, wtxt, List.append_nil, fin0, k48]
      cases o <;> rfl
  | cons x t ih =>
    intro i k o h hk ho
    cases k with
    | zero => simp at hk
    | succ k =>
      have hx := mem_cntW h.mem
      have rx := hr x h.mem
      have hj := jn_len x.2 rx
      have ho' : o.length + 100 * (1 + cntL x.2 + cntW t) ≤ 100000000000 := by simpa only [cntW] using ho
      obtain ⟨c, hc1, hc2⟩ : ∃ c : UInt8, n_spec_shLetter x.1 = some (bs [c]) ∧ (if x.1 then [43] else [45]) = [c] := by
        cases x.1
        · exact ⟨45, rfl, rfl⟩
        · exact ⟨43, rfl, rfl⟩
      simp only [n_spec_woText_l8, n_spec_woText_b8, h.lt, cond_true, h.idx, Option.bind_some, wtxt, hc1, hc2, k40, k41]
      rw [cats_bs (by simp; omega)]
      simp only [odInt1, Option.bind_some, scmp_ok x.2 one (by omega) rx (by simp [rng, rngT]), bs_app]
      by_cases hc : ocmp x.2 one = 0
      · rw [decide_eq_true hc, if_pos hc, h.wr hbb]
        simp only [cond_true]
        rw [ih (i + 1) k _ h.step (by simp at hk; omega) (by simp; omega)]
        simp
      · rw [decide_eq_false hc, if_neg hc]
        simp only [cond_false, odText_ok x.2 (by omega) rx, Option.bind_some]
        simp only [sml] at hw
        rw [cats_bs (by simp; omega), Option.bind_some, bs_app, cats_bs (by simp; omega), Option.bind_some, bs_app, cats_bs (by simp; omega), Option.bind_some, bs_app, h.wr hbb, ih (i + 1) k _ h.step (by simp at hk; omega) (by simp; omega)]
        simp
theorem WordText_same (w : Wo) (hw : cntW w < sml) : ∃ r, n_impl_WordText w = some r ∧ n_spec_WordText w = some r := by
  have hl := len_cntW w
  simp only [n_impl_WordText, n_spec_WordText, IsWord_ok w hw, woGood_ok w hw, Option.bind_some]
  cases hg : wgood w with
  | false => exact ⟨_, rfl, rfl⟩
  | true =>
    simp only [wgood, Bool.and_eq_true] at hg
    have hr := wform_rng hg.1
    have e1 : n_impl_WordText_l16 fuel (bs []) w 0 = _ := wtext_loop hw hr w 0 fuel [] (Sf.start w) (lt_fuel (by simp only [sml] at hw; omega)) (by simp only [sml] at hw; simp <;> omega)
    have e2 : n_spec_woText_l8 fuel (bs []) w 0 = _ := swtext_loop hw hr w 0 fuel [] (Sf.start w) (lt_fuel (by simp only [sml] at hw; omega)) (by simp only [sml] at hw; simp <;> omega)
    exact ⟨(bs (fin0 ([] ++ wtxt w)), true), by simp only [cond_true, k0, e1], by simp only [cond_true, n_spec_woText, k0, e2, Option.bind_some]⟩

/-- The law holds of every word that is not too large. -/
theorem law_WordText (w : Wo) (hw : cntW w < sml) : n_laws_FnExactWordText w = some true := by
  obtain ⟨s, hs⟩ := szWord_some w hw
  obtain ⟨r, h1, h2⟩ := WordText_same w hw
  simp only [n_laws_FnExactWordText, hs, Option.bind_some, toWord_same w hw, h1, h2, eqWord_same w hw, decide_true, cond_true]
  cases decide (s < 0) <;> rfl

end Go.Proofs.YtcaemkcglflmnaaDoor.Vm
