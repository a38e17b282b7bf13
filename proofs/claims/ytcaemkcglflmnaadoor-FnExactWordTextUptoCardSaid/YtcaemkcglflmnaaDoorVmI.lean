/-
  The abstract machine, part I: the compiler of operations; every compiled operation that is no call does what it is told to do. Conditions: none.
-/
import Derived.Test.YtcaemkcglflmnaaDoorVmH
namespace Go.Proofs.YtcaemkcglflmnaaDoor.Vm
open Go Go.RowKit
variable [Tbl]
set_option linter.unusedSimpArgs false
set_option linter.unusedVariables false
set_option linter.unusedSectionVars false

def cParts (P : Program) (fs : Array Field) : List (Nat × Operand) → Option (List (Nat × Nat × Opd))
  | [] => some []
  | (k, x) :: r => match fs[k]? with
    | some f => match P.info? f.type, cOpd x, cParts P fs r with
      | some i, some y, some s => some ((f.offset, i.size, y) :: s)
      | _, _, _ => none
    | none => none
def cParts2 : List (Nat × Operand) → Option (List (Nat × Opd))
  | [] => some []
  | (k, x) :: r => match cOpd x, cParts2 r with
    | some y, some s => some ((k, y) :: s)
    | _, _ => none
def cOpt : Option Operand → Option (Option Opd)
  | none => some none
  | some x => (cOpd x).map some

/-- A type whose values hold no address. -/
def primT (P : Program) : Nat → TypeId → Bool
  | 0, _ => false
  | n + 1, t => match P.underlying t with
    | some (.int _) | some .bool | some .string => true
    | some (.struct fs) => fs.toList.all fun f => primT P n f.type
    | some (.tuple ts) => ts.toList.all fun t => primT P n t
    | _ => false
/-- A type whose values give no way to write. -/
def byVal (P : Program) : Nat → TypeId → Bool
  | 0, _ => false
  | n + 1, t => match P.underlying t with
    | some (.int _) | some .bool | some .string | some (.slice _) | some (.func _ _ _) => true
    | some (.struct fs) => fs.toList.all fun f => byVal P n f.type
    | _ => false

def cOp (P : Program) (o : Oper) : Option COp :=
  match o.op with
  | .move x | .assign x => (cOpd x).map .mv
  | .pick c a b => match cOpd c, cOpd a, cOpd b with | some c, some a, some b => some (.pick c a b) | _, _, _ => none
  | .alloc t => match P.info? t with
    | some i => match i.zero with | some z => if z.cells.toList.all cellV then some (.alloc z.cells.toList) else none | none => none
    | none => none
  | .box _ x => (cOpd x).map .box
  | .build t ps => match P.underlying t, P.info? t with
    | some (.struct fs), some it => match it.zero, cParts P fs ps.toList with
      | some z, some qs => if z.cells.toList.all cellV && fs.toList.all (fun f => (P.info? f.type).isSome) then some (.build z.cells.toList qs) else none
      | _, _ => none
    | _, _ => none
  | .buildSlice t len ps => match P.underlying t with
    | some (.slice e) => match P.info? e, cParts2 ps.toList with
      | some i, some qs => if i.zero.isSome && decide (len * i.size ≤ 16777216) && decide (len = qs.length) then some (.buildSl i.size len qs) else none
      | _, _ => none
    | _ => none
  | .load t x => match P.info? t, P.underlying t, cOpd x with
    | some i, some d, some y => some (.load i.size (aggT d) y)
    | _, _, _ => none
  | .store t x z => match P.info? t, cOpd x, cOpd z with
    | some i, some y, some u => some (.store i.size y u)
    | _, _, _ => none
  | .binOp op t x y _ => match cOpd x, cOpd y, P.underlying t with
    | some x, some y, some .bool => match op with | .eql => some (.beq false x y) | .neq => some (.beq true x y) | _ => none
    | some x, some y, some (.int _) => some (.bin op x y)
    | some x, some y, some .string => some (.bin op x y)
    | _, _, _ => none
  | .unOp op _ x => (cOpd x).map (.un op)
  | .convert s t x => match P.underlying s, P.underlying t, cOpd x with
    | some _, some (.int k), some y => some (.toInt k y)
    | some (.slice e), some .string, some y => match P.underlying e with | some (.int .u8) => some (.str y) | _ => none
    | _, _, _ => none
  | .makeFunc (.func f) first caps => if first.size = 0 then (cOpds caps.toList).map (.mkfn f) else none
  | .makeSlice t x y => match P.underlying t, cOpd x, cOpd y with
    | some (.slice e), some x, some y => match P.info? e with
      | some i => match i.zero with | some z => if z.cells.toList.all cellV then some (.mkSl i.size i.bytes z.cells.toList x y) else none | none => none
      | none => none
    | _, _, _ => none
  | .slice t x lo hi none => match P.underlying t, cOpd x, cOpt lo, cOpt hi with
    | some (.slice e), some y, some l, some h => match P.info? e with | some i => some (.slice false i.size y l h) | none => none
    | some .string, some y, some l, some h => some (.slice true 0 y l h)
    | _, _, _, _ => none
  | .fieldAddr t x k => match P.underlying t, cOpd x with
    | some (.struct fs), some y => match fs[k]? with
      | some f => match P.info? f.type with | some i => if i.size ≠ 0 then some (.fadr f.offset y) else none | none => none
      | none => none
    | _, _ => none
  | .field t x k => match P.underlying t, cOpd x with
    | some (.struct fs), some y => match fs[k]? with
      | some f => match P.info? f.type, P.underlying f.type with | some i, some d => some (.field f.offset i.size (aggT d) y) | _, _ => none
      | none => none
    | _, _ => none
  | .indexAddr t x i => match P.underlying t, cOpd x, cOpd i with
    | some (.slice e), some y, some u => match P.info? e with | some i => some (.iadr i.size y u) | none => none
    | _, _, _ => none
  | .index t x i => match P.underlying t, cOpd x, cOpd i with
    | some .string, some y, some u => some (.idx y u)
    | _, _, _ => none
  | .extract x k => (cOpd x).map (.ext · k)
  | .nilCheck x => (cOpd x).map .nilc
  | .call { callee := .builtin .len, args, argTypes } => match args.toList, argTypes.toList with
    | [x], [t] => match cOpd x, P.underlying t with
      | some y, some (.slice _) => some (.len false y)
      | some y, some .string => some (.len true y)
      | _, _ => none
    | _, _ => none
  | .call { callee := .builtin .append, args, argTypes } => match args.toList, argTypes.toList with
    | [x, y], [t, t'] => if t = t' then match cOpd x, cOpd y, P.underlying t with
      | some x, some y, some (.slice e) => match P.info? e with
        | some i => match i.zero with | some z => if z.cells.size = i.size then some (.app i.size i.bytes x y) else none | none => none
        | none => none
      | _, _, _ => none else none
    | _, _ => none
  | .call { callee := .value f, args, argTypes } => match cOpd f, cOpds args.toList with
    | some f, some xs => some (.call (primT P 4 o.type && argTypes.toList.all (byVal P 4)) f xs)
    | _, _ => none
  | _ => none

theorem allV {l : List Value} (h : l.all cellV = true) : ∀ u ∈ l, cellV u = true := by simpa using h

theorem cParts_ok {P : Program} {fs : Array Field} : ∀ {ps : List (Nat × Operand)} {qs : List (Nat × Nat × Opd)}, cParts P fs ps = some qs → ps.length = qs.length ∧ ∀ (j : Nat) p q, ps[j]? = some p → qs[j]? = some q → partOk P fs p q
  | [], qs, h => by simp only [cParts, Option.some.injEq] at h; subst h; simp
  | (k, x) :: r, qs, h => by
    simp only [cParts] at h
    split at h
    · rename_i f hf
      split at h
      · rename_i i y s h1 h2 h3
        obtain rfl := Option.some.inj h
        obtain ⟨k1, k2⟩ := cParts_ok h3
        refine ⟨by simp [k1], fun j p q hj hj' => ?_⟩
        cases j with
        | zero => simp at hj hj'; subst hj; subst hj'; exact ⟨f, i, hf, h1, rfl, rfl, h2⟩
        | succ j => simp at hj hj'; exact k2 j p q hj hj'
      · cases h
    · cases h
theorem cParts2_ok : ∀ {ps : List (Nat × Operand)} {qs : List (Nat × Opd)}, cParts2 ps = some qs → ps.length = qs.length ∧ ∀ (j : Nat) p q, ps[j]? = some p → qs[j]? = some q → p.1 = q.1 ∧ cOpd p.2 = some q.2
  | [], qs, h => by simp only [cParts2, Option.some.injEq] at h; subst h; simp
  | (k, x) :: r, qs, h => by
    simp only [cParts2] at h
    split at h
    · rename_i y s h1 h2
      obtain rfl := Option.some.inj h
      obtain ⟨k1, k2⟩ := cParts2_ok h2
      refine ⟨by simp [k1], fun j p q hj hj' => ?_⟩
      cases j with
      | zero => simp at hj hj'; subst hj; subst hj'; exact ⟨rfl, h1⟩
      | succ j => simp at hj hj'; exact k2 j p q hj hj'
    · cases h
theorem cOpt_ok {l : Option Operand} {l' : Option Opd} (h : cOpt l = some l') : l.map cOpd = l'.map some := by
  cases l with
  | none => simp only [cOpt, Option.some.injEq] at h; subst h; rfl
  | some x =>
    simp only [cOpt] at h
    obtain ⟨y, h1, rfl⟩ := Option.map_eq_some_iff.1 h
    simp [h1]

theorem list_two {α : Type} {a : Array α} {x y : α} (h : a.toList = [x, y]) : a = #[x, y] := by rw [← Array.toArray_toList (xs := a), h]
theorem list_one {α : Type} {a : Array α} {x : α} (h : a.toList = [x]) : a = #[x] := by rw [← Array.toArray_toList (xs := a), h]

def isCtl : COp → Bool
  | .pick _ _ _ => true
  | .call _ _ _ => true
  | _ => false

theorem op_sound {P : Program} {F : Fr} {E : Env} {S : Store} {g : G} {a : Act} {o : Oper} (h : Rel F E S g a.tmps) {c : COp} (hc : cOp P o = some c) (hn : isCtl c = false) {dst : Nat} {r : Res} (hd : det E S dst c = some r) (hp : r.p) : Runs P F S g (execOp a.eval o) r.av (r.ws ++ S) := by
  unfold cOp at hc
  split at hc
  · rename_i x ho
    obtain ⟨y, h1, rfl⟩ := Option.map_eq_some_iff.1 hc
    simp only [det, Option.some.injEq] at hd; subst hd
    exact run_mv h (.inl ho) h1
  · rename_i x ho
    obtain ⟨y, h1, rfl⟩ := Option.map_eq_some_iff.1 hc
    simp only [det, Option.some.injEq] at hd; subst hd
    exact run_mv h (.inr ho) h1
  · split at hc
    · obtain rfl := Option.some.inj hc; simp [isCtl] at hn
    · cases hc
  · rename_i t ho
    split at hc
    · rename_i i hi
      split at hc
      · rename_i z hz
        split at hc
        · rename_i hv
          obtain rfl := Option.some.inj hc
          simp only [det, Option.some.injEq] at hd; subst hd
          exact run_alloc h ho hi hz (allV hv) hp
        · cases hc
      · cases hc
    · cases hc
  · rename_i t x ho
    obtain ⟨y, h1, rfl⟩ := Option.map_eq_some_iff.1 hc
    simp only [det, Option.some.injEq] at hd; subst hd
    exact run_box h ho h1 hp.1 hp.2
  · rename_i t ps ho
    split at hc
    · rename_i fs it ht hit
      split at hc
      · rename_i z qs hz hqs
        split at hc
        · rename_i hv
          obtain rfl := Option.some.inj hc
          simp only [Bool.and_eq_true, List.all_eq_true] at hv
          obtain ⟨k1, k2⟩ := cParts_ok hqs
          exact run_build h ho ht hit hz hv.1 (fun f hf => Option.isSome_iff_exists.1 (hv.2 f hf)) k1 k2 hd hp
        · cases hc
      · cases hc
    · cases hc
  · rename_i t len ps ho
    split at hc
    · rename_i e ht
      split at hc
      · rename_i i qs hi hqs
        split at hc
        · rename_i hv
          obtain rfl := Option.some.inj hc
          simp only [Bool.and_eq_true, decide_eq_true_eq] at hv
          obtain ⟨k1, k2⟩ := cParts2_ok hqs
          obtain ⟨z, hz⟩ := Option.isSome_iff_exists.1 hv.1.1
          exact run_buildSl h ho ht hi hz hv.1.2 hv.2 k1 k2 hd hp
        · cases hc
      · cases hc
    · cases hc
  · rename_i t x ho
    split at hc
    · rename_i i d y hi hdd h1
      obtain rfl := Option.some.inj hc
      have ha : aggT d = aggT d := rfl
      simp only [det] at hd
      split at hd
      · rename_i id off he
        split at hd
        · rename_i cells hs
          split at hd
          · rename_i hag
            obtain rfl := Option.some.inj hd
            exact run_load_box h ho h1 hi hdd ha he hs (fun _ => hp) _ (by simp [hag])
          · rename_i hag
            split at hd
            · rename_i c hcc
              obtain rfl := Option.some.inj hd
              exact run_load_box h ho h1 hi hdd ha he hs (fun e => absurd e hag) _ (by simp [hag, hcc])
            · cases hd
        · cases hd
      · rename_i cells he
        split at hd
        · rename_i c hcc
          obtain rfl := Option.some.inj hd
          exact run_load_rp h ho h1 hi hdd ha he hcc
        · cases hd
      · rename_i id st k ix j he
        split at hd
        · rename_i st' own sz rows hs
          split at hd
          · rename_i row hrow
            split at hd
            · rename_i c hcc
              obtain rfl := Option.some.inj hd
              obtain ⟨rfl, rfl⟩ := hp
              exact run_load_ep h ho h1 hi hdd ha he hs rfl hrow hcc
            · cases hd
          · cases hd
        · cases hd
      · cases hd
    · cases hc
  · rename_i t x z ho
    split at hc
    · rename_i i y u hi h1 h2
      obtain rfl := Option.some.inj hc
      simp only [det] at hd
      split at hd
      · rename_i id off he
        split at hd
        · rename_i cells hs
          obtain rfl := Option.some.inj hd
          exact run_store_box h ho h1 h2 hi he hs hp.1 hp.2.1 hp.2.2
        · cases hd
      · rename_i id st k ix j he
        split at hd
        · rename_i st' sz rows hs
          split at hd
          · rename_i row ds hrow hds
            obtain rfl := Option.some.inj hd
            obtain ⟨rfl, rfl, q1, q2, q3⟩ := hp
            exact run_store_ep h ho h1 h2 hi he hs rfl hrow hds q1 q2 q3
          · cases hd
        · cases hd
      · cases hd
    · cases hc
  · rename_i op t x y u ho
    split at hc
    · rename_i x' y' h1 h2 ht
      split at hc
      · obtain rfl := Option.some.inj hc
        simp only [det] at hd
        split at hd
        · rename_i b b' he he'
          obtain rfl := Option.some.inj hd
          exact run_beq (neg := false) h ho rfl ht h1 h2 he he'
        · cases hd
      · obtain rfl := Option.some.inj hc
        simp only [det] at hd
        split at hd
        · rename_i b b' he he'
          obtain rfl := Option.some.inj hd
          exact run_beq (neg := true) h ho rfl ht h1 h2 he he'
        · cases hd
      · cases hc
    all_goals first
      | (rename_i x' y' k h1 h2 ht
         obtain rfl := Option.some.inj hc
         simp only [det] at hd
         split at hd
         · rename_i k n k' n' he he'
           split at hd
           · rename_i p r hb
             obtain rfl := Option.some.inj hd
             obtain ⟨rfl, hp⟩ := hp
             exact run_bin_int h ho h1 h2 he he' hb hp
           · cases hd
         · rename_i n n' he he'
           split at hd
           · rename_i p r hb
             obtain rfl := Option.some.inj hd
             exact run_bin_str h ho h1 h2 he he' hb hp
           · cases hd
         · cases hd)
      | (rename_i x' y' h1 h2 ht
         obtain rfl := Option.some.inj hc
         simp only [det] at hd
         split at hd
         · rename_i k n k' n' he he'
           split at hd
           · rename_i p r hb
             obtain rfl := Option.some.inj hd
             obtain ⟨rfl, hp⟩ := hp
             exact run_bin_int h ho h1 h2 he he' hb hp
           · cases hd
         · rename_i n n' he he'
           split at hd
           · rename_i p r hb
             obtain rfl := Option.some.inj hd
             exact run_bin_str h ho h1 h2 he he' hb hp
           · cases hd
         · cases hd)
      | cases hc
  · rename_i op t x ho
    obtain ⟨y, h1, rfl⟩ := Option.map_eq_some_iff.1 hc
    exact run_un h ho h1 hd
  · rename_i s t x ho
    split at hc
    · rename_i ds k y hs ht h1
      obtain rfl := Option.some.inj hc
      exact run_toInt h ho hs ht h1 hd
    · rename_i e y hs ht h1
      split at hc
      · rename_i he
        obtain rfl := Option.some.inj hc
        exact run_str h ho hs he ht h1 hd hp
      · cases hc
    · cases hc
  · rename_i f first caps ho
    split at hc
    · rename_i hf
      obtain ⟨ys, h1, rfl⟩ := Option.map_eq_some_iff.1 hc
      simp only [det, Option.some.injEq] at hd; subst hd
      have : first = #[] := Array.eq_empty_of_size_eq_zero hf
      subst this
      exact run_mkfn h ho h1
    · cases hc
  · rename_i t x y ho
    split at hc
    · rename_i e x' y' ht h1 h2
      split at hc
      · rename_i i hi
        split at hc
        · rename_i z hz
          split at hc
          · rename_i hv
            obtain rfl := Option.some.inj hc
            exact run_mkSl h ho h1 h2 ht hi hz (allV hv) hd hp
          · cases hc
        · cases hc
      · cases hc
    · cases hc
  · rename_i t x lo hi ho
    split at hc
    · rename_i e y l hh ht h1 hl hhh
      split at hc
      · rename_i i hi'
        obtain rfl := Option.some.inj hc
        exact run_slice (s := false) h ho h1 (cOpt_ok hl) (cOpt_ok hhh) ⟨e, i, ht, hi', rfl⟩ hd hp
      · cases hc
    · rename_i y l hh ht h1 hl hhh
      obtain rfl := Option.some.inj hc
      exact run_slice (s := true) h ho h1 (cOpt_ok hl) (cOpt_ok hhh) ht hd hp
    · cases hc
  · rename_i t x k ho
    split at hc
    · rename_i fs y ht h1
      split at hc
      · rename_i f hf
        split at hc
        · rename_i i hi
          split at hc
          · rename_i hs
            obtain rfl := Option.some.inj hc
            exact run_fadr h ho h1 ht hf hi hs hd hp
          · cases hc
        · cases hc
      · cases hc
    · cases hc
  · rename_i t x k ho
    split at hc
    · rename_i fs y ht h1
      split at hc
      · rename_i f hf
        split at hc
        · rename_i i d hi hdd
          obtain rfl := Option.some.inj hc
          exact run_field h ho h1 ht hf hi hdd rfl hd hp
        · cases hc
      · cases hc
    · cases hc
  · rename_i t x z ho
    split at hc
    · rename_i e y u ht h1 h2
      split at hc
      · rename_i i hi
        obtain rfl := Option.some.inj hc
        exact run_iadr h ho h1 h2 ht hi hd hp
      · cases hc
    · cases hc
  · rename_i t x z ho
    split at hc
    · rename_i y u ht h1 h2
      obtain rfl := Option.some.inj hc
      exact run_idx h ho h1 h2 ht hd hp
    · cases hc
  · rename_i x k ho
    obtain ⟨y, h1, rfl⟩ := Option.map_eq_some_iff.1 hc
    exact run_ext h ho h1 hd
  · rename_i x ho
    obtain ⟨y, h1, rfl⟩ := Option.map_eq_some_iff.1 hc
    exact run_nilc h ho h1 hd
  · rename_i args argTypes ho
    split at hc
    · rename_i x t hx ht'
      rw [list_one hx, list_one ht'] at ho
      split at hc
      · rename_i y e h1 ht
        obtain rfl := Option.some.inj hc
        exact run_len (s := false) h (ty := 0) ho h1 ⟨e, ht⟩ hd hp
      · rename_i y h1 ht
        obtain rfl := Option.some.inj hc
        exact run_len (s := true) h (ty := 0) ho h1 ht hd hp
      · cases hc
    · cases hc
  · rename_i args argTypes ho
    split at hc
    · rename_i x y t t' hx ht'
      rw [list_two hx, list_two ht'] at ho
      split at hc
      · rename_i htt
        subst htt
        split at hc
        · rename_i x' y' e h1 h2 ht
          split at hc
          · rename_i i hi
            split at hc
            · rename_i z hz
              split at hc
              · rename_i hzs
                obtain rfl := Option.some.inj hc
                exact run_app h ho h1 h2 ht hi hz hzs hd hp
              · cases hc
            · cases hc
          · cases hc
        · cases hc
      · cases hc
    · cases hc
  · split at hc
    · obtain rfl := Option.some.inj hc; simp [isCtl] at hn
    · cases hc
  · cases hc

end Go.Proofs.YtcaemkcglflmnaaDoor.Vm
