/-
  Plain functions that programs are printed with, and the facts that ways ask for. Conditions: none.
-/
import Derived.Test.YtcaemkcglflmnaaDoorVmV
namespace Go.Proofs.YtcaemkcglflmnaaDoor.Vm
open Go Go.RowKit
variable [Tbl]
set_option linter.unusedSimpArgs false
set_option linter.unusedVariables false
set_option linter.unusedSectionVars false

abbrev wr (n : Int) : Int := IntKind.i64.wrap n
/-- Fuel of loops and recursions: more than any memory's cells. -/
def fuel : Nat := 1152921504606846976
theorem fuel_eq : fuel = 1152921504606846976 := rfl
attribute [irreducible] fuel

section
variable {α : Type}
def idx (l : List α) (n : Int) : Option α := if 0 ≤ n then l[n.toNat]? else none
def sidx (s : ByteArray) (n : Int) : Option UInt8 := if 0 ≤ n then s.data.toList[n.toNat]? else none
def cats (a b : ByteArray) : Option ByteArray := if a.size + b.size ≤ 9223372036854775807 then some (a ++ b) else none
def appn (b : Nat) (l m : List α) : Option (List α) := if (l.length + m.length) * (b + 1) ≤ 140737488355328 then some (l ++ m) else none
def subn (l : List α) (a b : Int) : Option (List α) := if 0 ≤ a ∧ a ≤ b ∧ b ≤ (l.length : Int) then some ((l.take b.toNat).drop a.toNat) else none
def ssub (s : ByteArray) (a b : Int) : Option ByteArray := if 0 ≤ a ∧ a ≤ b ∧ b ≤ (s.size : Int) then some (s.extract a.toNat b.toNat) else none
def mkn (b : Nat) (n : Int) (z : α) : Option (List α) := if 0 ≤ n ∧ n * (b + 1) ≤ 140737488355328 then some (List.replicate n.toNat z) else none
def divn (a b : Int) : Option Int := if b ≠ 0 then some (wr (a.tdiv b)) else none
def remn (a b : Int) : Option Int := if b ≠ 0 then some (a.tmod b) else none
def nzn (b : Int) : Option Unit := if b ≠ 0 then some () else none
def strn (l : List Int) : ByteArray := l.foldl (fun r n => r.push (UInt8.ofNat n.toNat)) ByteArray.empty
end

section
variable {α β : Type} {r : β} {G : Prop}
theorem bif_elim {c : Bool} {x y : Option β} (h : (bif c then x else y) = some r) (ht : c = true → x = some r → G) (hf : c = false → y = some r → G) : G := by
  cases c with
  | true => exact ht rfl h
  | false => exact hf rfl h
theorem bind_elim {x : Option α} {f : α → Option β} (h : x.bind f = some r) (k : ∀ a, x = some a → f a = some r → G) : G := by
  obtain ⟨a, h1, h2⟩ := Option.bind_eq_some_iff.1 h
  exact k a h1 h2
end

/-- Elements of slices: how many cells, how they are told. -/
structure ElOk {α : Type} (sz : Nat) (e : Bool → List α → List (List D)) (r : Bool → α → List D) : Prop where
  eq : ∀ o l, e o l = l.map (r o)
  len : ∀ o x, (r o x).length = sz
  pl : ∀ o x, D.pl.plL (r o x) = r false x
  plain : ∀ x, plains (r false x) = true

section
variable {α : Type} {sz : Nat} {e : Bool → List α → List (List D)} {r : Bool → α → List D}
theorem row_ok (k : ElOk sz e r) {o : Bool} {l : List α} {n : Int} {x : α} (h : idx l n = some x) : 0 ≤ n ∧ (e o l)[n.toNat]? = some (r o x) := by
  unfold idx at h
  split at h
  · rename_i hn
    exact ⟨hn, by rw [k.eq, List.getElem?_map, h]; rfl⟩
  · cases h
theorem inb_ok (k : ElOk sz e r) {o : Bool} {l : List α} {n : Int} {x : α} (h : idx l n = some x) : 0 ≤ n ∧ n < ((e o l).length : Int) := by
  unfold idx at h
  split at h
  · rename_i hn
    have := (List.getElem?_eq_some_iff.1 h).1
    rw [k.eq, List.length_map]
    omega
  · cases h
theorem erow_ok (k : ElOk sz e r) {o : Bool} {l : List α} {n : Int} {x : α} (h : idx l n = some x) : (e o l)[n.toNat]? = some (r o x) := (row_ok k h).2
theorem eset_ok (k : ElOk sz e r) {o : Bool} {l : List α} {n : Int} {x x' : α} (h : idx l n = some x) {j m : Nat} {ds : List D} (hp : plains (((r o x).drop j).take m) = true) (hs : putAt (r o x) j ds = r o x') :
    (e o l)[n.toNat]? = some (r o x) ∧ plains (((r o x).drop j).take m) = true ∧ (e o l).set n.toNat (putAt (r o x) j ds) = e o (l.set n.toNat x') :=
  ⟨(row_ok k h).2, hp, by rw [hs, k.eq, k.eq, List.map_set]⟩
theorem len_ok (k : ElOk sz e r) (o : Bool) (l : List α) : (e o l).length = l.length := by rw [k.eq, List.length_map]
theorem pub_ok (k : ElOk sz e r) (o : Bool) (l : List α) : D.pl.plLL (e o l) = e false l := by
  rw [k.eq, k.eq]
  induction l with
  | nil => rfl
  | cons a l ih => simp only [List.map_cons, D.pl.plLL, k.pl, ih]
theorem plainLL_ok (k : ElOk sz e r) (l : List α) : plainLL (e false l) := by
  rw [k.eq]
  induction l with
  | nil => trivial
  | cons a l ih => exact ⟨k.plain a, ih⟩
theorem rows_sz (k : ElOk sz e r) (o : Bool) (l : List α) : ∀ x ∈ e o l, x.length = sz := by
  rw [k.eq]
  intro x hx
  obtain ⟨a, _, rfl⟩ := List.mem_map.1 hx
  exact k.len o a
theorem app_ok (k : ElOk sz e r) {b : Nat} {l m z : List α} (h : appn b l m = some z) : plainLL (e false m) ∧ (∀ x ∈ e false m, x.length = sz) ∧ ((e false l).length + (e false m).length) * (b + 1) ≤ 140737488355328 ∧ e false l ++ e false m = e false z := by
  unfold appn at h
  split at h
  · rename_i hb
    obtain rfl := Option.some.inj h
    exact ⟨plainLL_ok k m, rows_sz k false m, by rw [len_ok k, len_ok k]; exact hb, by rw [k.eq, k.eq, k.eq, List.map_append]⟩
  · cases h
theorem sub_ok (k : ElOk sz e r) {o : Bool} {l z : List α} {a b : Int} (h : subn l a b = some z) : 0 ≤ a ∧ a ≤ b ∧ b ≤ ((e o l).length : Int) ∧ ((e o l).take b.toNat).drop a.toNat = e o z := by
  unfold subn at h
  split at h
  · rename_i hb
    obtain rfl := Option.some.inj h
    exact ⟨hb.1, hb.2.1, by rw [len_ok k]; exact hb.2.2, by rw [k.eq, k.eq, List.map_drop, List.map_take]⟩
  · cases h
/-- A slice's rest. -/
theorem subT_ok (k : ElOk sz e r) {o : Bool} {l z : List α} {a : Int} (h : subn l a (l.length : Int) = some z) : 0 ≤ a ∧ a ≤ ((e o l).length : Int) ∧ ((e o l).length : Int) ≤ ((e o l).length : Int) ∧ ((e o l).take ((e o l).length : Int).toNat).drop a.toNat = e o z := by
  have := sub_ok k (o := o) h
  rw [len_ok k] at this ⊢
  exact this
theorem mk_ok (k : ElOk sz e r) {b : Nat} {n : Int} {z : α} {l : List α} (h : mkn b n z = some l) : 0 ≤ n ∧ n * (b + 1) ≤ 140737488355328 ∧ List.replicate n.toNat (r false z) = e false l := by
  unfold mkn at h
  split at h
  · rename_i hb
    obtain rfl := Option.some.inj h
    exact ⟨hb.1, hb.2, by rw [k.eq, List.map_replicate]⟩
  · cases h
theorem mkr_ok {b : Nat} {n : Int} {z : α} {l : List α} (h : mkn b n z = some l) (zr : List D) : 0 ≤ n ∧ n * (b + 1) ≤ 140737488355328 ∧ List.replicate n.toNat zr = List.replicate n.toNat zr := by
  unfold mkn at h
  split at h
  · rename_i hb
    exact ⟨hb.1, hb.2, rfl⟩
  · cases h
theorem mkn_eq {b : Nat} {n : Int} {z : α} {l : List α} (h : mkn b n z = some l) : l = List.replicate n.toNat z := by
  unfold mkn at h
  split at h
  · exact (Option.some.inj h).symm
  · cases h
end

theorem byte_ok {s : ByteArray} {n : Int} {b : UInt8} (h : sidx s n = some b) : 0 ≤ n ∧ s.data.toList[n.toNat]? = some b := by
  unfold sidx at h
  split at h
  · rename_i hn; exact ⟨hn, h⟩
  · cases h
theorem cat_ok {a b s : ByteArray} (h : cats a b = some s) : a.size + b.size ≤ 9223372036854775807 := by
  unfold cats at h
  split at h
  · assumption
  · cases h
theorem cats_eq {a b s : ByteArray} (h : cats a b = some s) : s = a ++ b := by
  unfold cats at h
  split at h
  · exact (Option.some.inj h).symm
  · cases h
theorem ssub_ok {s z : ByteArray} {a b : Int} (h : ssub s a b = some z) : 0 ≤ a ∧ a ≤ b ∧ b ≤ (s.size : Int) := by
  unfold ssub at h
  split at h
  · assumption
  · cases h
theorem nz_ok {b : Int} {u : Unit} (h : nzn b = some u) : b ≠ 0 := by
  unfold nzn at h
  split at h
  · assumption
  · cases h

/-! ### data that may stand for other data -/
theorem DLes.c {d d' : D} {l l' : List D} (h : DLe d d') (k : DLes l l') : DLes (d :: l) (d' :: l') := ⟨h, k⟩
theorem DLes.z : DLes [] [] := trivial
theorem DLe.tp {ds ds' : List D} (h : DLes ds ds') : DLe (.tp ds) (.tp ds') := fun m bs v k => by
  simp only [R] at k ⊢
  obtain ⟨us, h1, h2⟩ := k
  exact ⟨us, h1, h.ok h2⟩
theorem DLe.rpTake (n : Nat) (l : List D) : DLe (.rp l) (.rp (l.take n)) := fun m bs v k => by
  simp only [R] at k ⊢
  obtain ⟨h0, b, o, arr, t, fz, us, h1, h2, h3, h4, h5⟩ := k
  exact ⟨h0, b, o, arr, t, fz, us.take n, h1, h2, h3, h4.take_ n, RL_nil_take n h5⟩
theorem ALes.z : ALes [] [] := trivial
theorem ALes.v {d d' : D} {l l' : List A} (h : DLe d d') (k : ALes l l') : ALes (.v d :: l) (.v d' :: l') := ⟨h, k⟩
theorem ALes.bx {ds ds' : List D} {l l' : List A} (h : DLes ds ds') (k : ALes l l') : ALes (.bx ds :: l) (.bx ds' :: l') := ⟨h, k⟩
def DLLes : List (List D) → List (List D) → Prop
  | [], [] => True
  | r :: rs, r' :: rs' => DLes r r' ∧ DLLes rs rs'
  | _, _ => False
theorem DLLes.ok {m : Mem} : ∀ {ds ds' : List (List D)} {bs : List Nat} {us : List Value}, DLLes ds ds' → RLL m ds bs us → RLL m ds' bs us
  | [], [], bs, us, _, h => h
  | d :: ds, d' :: ds', bs, us, h, k => by
    simp only [RLL] at k ⊢
    obtain ⟨u, us', b1, b2, rfl, hb, k1, k2⟩ := k
    exact ⟨u, us', b1, b2, rfl, hb, h.1.ok k1, DLLes.ok h.2 k2⟩
theorem DLes.length : ∀ {ds ds' : List D}, DLes ds ds' → ds'.length = ds.length
  | [], [], _ => rfl
  | d :: ds, d' :: ds', h => by simp [DLes.length h.2]
theorem DLLes.length : ∀ {ds ds' : List (List D)}, DLLes ds ds' → ds'.length = ds.length
  | [], [], _ => rfl
  | d :: ds, d' :: ds', h => by simp [DLLes.length h.2]
theorem DLLes.sz {sz : Nat} : ∀ {ds ds' : List (List D)}, DLLes ds ds' → (∀ r ∈ ds, r.length = sz) → ∀ r ∈ ds', r.length = sz
  | [], [], _, _, r, hr => by simp at hr
  | d :: ds, d' :: ds', h, hs, r, hr => by
    rcases List.mem_cons.1 hr with rfl | hr
    · rw [h.1.length]; exact hs d (by simp)
    · exact DLLes.sz h.2 (fun r hr => hs r (by simp [hr])) r hr
theorem DLe.sl {own : Bool} {sz : Nat} {rows rows' : List (List D)} (h : DLLes rows rows') : DLe (.sl own sz rows) (.sl own sz rows') := fun m bs v k => by
  have hl := h.length
  have h0 : rows = [] → rows' = [] := fun e => by subst e; exact List.eq_nil_of_length_eq_zero (by simpa using hl)
  cases own with
  | true =>
    simp only [R] at k ⊢
    refine ⟨h.sz k.1, ?_⟩
    rcases k.2 with ⟨e, k2, k3⟩ | ⟨b, c, arr, t, us, bs', k1, k2, k3, k4, k5, k6, k7, k8, k9⟩
    · exact .inl ⟨h0 e, k2, k3⟩
    · exact .inr ⟨b, c, arr, t, us, bs', k1, by rw [hl]; exact k2, by rw [hl]; exact k3, k4, k5, k6, k7, by rw [hl]; exact k8, h.ok k9⟩
  | false =>
    simp only [R] at k ⊢
    obtain ⟨q0, q1, A, c, q2, q3, q4⟩ := k
    refine ⟨h.sz q0, q1, A, c, by rw [hl]; exact q2, by rw [hl]; exact q3, ?_⟩
    rcases q4 with e | ⟨b, o, arr, t, fz, us, k5, k6, k7, k8, k9, k10⟩
    · exact .inl (h0 e)
    · exact .inr ⟨b, o, arr, t, fz, us, k5, k6, k7, k8, by rw [hl]; exact k9, h.ok k10⟩
theorem DLLes.rep {r r' : List D} (h : DLes r r') : ∀ n : Nat, DLLes (List.replicate n r) (List.replicate n r')
  | 0 => trivial
  | n + 1 => ⟨h, DLLes.rep h n⟩
theorem DLLes.c {r r' : List D} {l l' : List (List D)} (h : DLes r r') (k : DLLes l l') : DLLes (r :: l) (r' :: l') := ⟨h, k⟩
theorem DLLes.z : DLLes [] [] := trivial
/-- Rows told in other words. -/
theorem gle_ok {sz : Nat} {rows rows' : List (List D)} (h : DLLes rows rows') :
    DLe (.sl true sz rows) (.sl true sz rows') ∧ (∃ own s rs, D.sl true sz rows' = .sl own s rs) ∧ (D.sl true sz rows').len = (D.sl true sz rows).len ∧ (D.sl true sz rows').szOf = (D.sl true sz rows).szOf :=
  ⟨DLe.sl h, ⟨_, _, _, rfl⟩, h.length, rfl⟩
theorem set_len {α : Type} {sz : Nat} {e : Bool → List α → List (List D)} {r : Bool → α → List D} (k : ElOk sz e r) (o : Bool) (l : List α) (i : Nat) (x : α) : (e o l).length = (e o (l.set i x)).length := by
  rw [len_ok k, len_ok k, List.length_set]
theorem mk_len {α : Type} {sz b : Nat} {e : Bool → List α → List (List D)} {r : Bool → α → List D} (k : ElOk sz e r) {n : Int} {z : α} {l : List α} (h : mkn b n z = some l) (zr : List D) : (List.replicate n.toNat zr).length = (e false l).length := by
  have hl := mkn_eq h
  subst hl
  simp [len_ok k]
/-- What make has made, told as a list of zero elements. -/
theorem gle_mk {α : Type} {sz b : Nat} {e : Bool → List α → List (List D)} {r : Bool → α → List D} (k : ElOk sz e r) {n : Int} {z : α} {l : List α} (h : mkn b n z = some l) {zr : List D} (hz : DLes zr (r false z)) :
    DLe (.sl true sz (List.replicate n.toNat zr)) (.sl true sz (e false l)) ∧ (∃ own s rows, D.sl true sz (e false l) = .sl own s rows) ∧ (D.sl true sz (e false l)).len = (D.sl true sz (List.replicate n.toNat zr)).len ∧ (D.sl true sz (e false l)).szOf = (D.sl true sz (List.replicate n.toNat zr)).szOf := by
  have hl := mkn_eq h
  subst hl
  refine ⟨DLe.sl ?_, ⟨_, _, _, rfl⟩, ?_, rfl⟩
  · rw [k.eq, List.map_replicate]; exact DLLes.rep hz _
  · simp [D.len, len_ok k]

/-- A library's call that leaves all that was there. -/
theorem after_below {m : Mem} {w' : World} (hwf : ∀ b, m.w.heap.size ≤ b → m.im b = false) (h : Below m.w.heap.size m.w w') : After m [] ⟨w', m.im⟩ [] where
  wf := fun b hb => hwf b (Nat.le_trans h.size hb)
  size := h.size
  nodup := List.nodup_nil
  range := fun b hb => by simp at hb
  keep := fun b hb _ => ⟨h.block b hb, rfl⟩
  os := h.os
  tape := h.tape
  output := h.output

end Go.Proofs.YtcaemkcglflmnaaDoor.Vm
