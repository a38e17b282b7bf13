/-
  The abstract machine, part S: a check that one abstract state may stand for another, with objects named anew. Conditions: none.
-/
import Derived.Test.YtcaemkcglflmnaaDoorVmQ
namespace Go.Proofs.YtcaemkcglflmnaaDoor.Vm
open Go Go.RowKit
variable [Tbl]
set_option linter.unusedSimpArgs false
set_option linter.unusedVariables false
set_option linter.unusedSectionVars false

/-- What is compared. -/
inductive Cmp where
  | n (x : Nat)
  | i (x : Int)
  | b (x : Bool)
  | d (x : D)
  | r (x : List (List D))
  | w (x : List D)
  | s (x : ByteArray)
  | a (x : List A)
  | k (x : IntKind)

structure Out (φ : Type) where
  l : List Cmp
  r : List Cmp
  fin : φ
def eqc {φ : Type} (x y : Cmp) (m : Option (Out φ)) : Option (Out φ) := match m with | some o => some ⟨x :: o.l, y :: o.r, o.fin⟩ | none => none
def chk {φ : Type} (c : Bool) (m : Option (Out φ)) : Option (Out φ) := match c with | true => m | false => none
def Good {φ : Type} (m : Option (Out φ)) (f : φ) : Prop := ∃ o, m = some o ∧ o.l = o.r ∧ o.fin = f
theorem good_eqc {φ : Type} {x y : Cmp} {m : Option (Out φ)} {f : φ} (h : Good (eqc x y m) f) : x = y ∧ Good m f := by
  obtain ⟨o, h1, h2, h3⟩ := h
  cases m with
  | none => cases h1
  | some o' =>
    obtain rfl := Option.some.inj h1
    obtain ⟨h4, h5⟩ := List.cons.inj h2
    exact ⟨h4, o', rfl, h5, h3⟩
theorem good_chk {φ : Type} {c : Bool} {m : Option (Out φ)} {f : φ} (h : Good (chk c m) f) : c = true ∧ Good m f := by
  cases c with
  | true => exact ⟨rfl, h⟩
  | false => obtain ⟨o, h1, _⟩ := h; cases h1
theorem good_none {φ : Type} {f : φ} : ¬ Good (none : Option (Out φ)) f := by rintro ⟨o, h, _⟩; cases h
theorem good_some {φ : Type} {f g : φ} (h : Good (some ⟨[], [], g⟩) f) : g = f := by
  obtain ⟨o, h1, _, h3⟩ := h
  obtain rfl := Option.some.inj h1
  exact h3

def rho : List (Nat × Nat) → Nat → Nat
  | [], i => i
  | (n, o) :: l, i => match n == i with | true => o | false => rho l i

def curC {φ : Type} (S : Store) (id st n : Nat) (k : Option (Out φ)) : Option (Out φ) := match sget S id with
  | some (.slc s d) => chk (s == st) (eqc (.n n) (.n d.len) k)
  | _ => none
theorem curC_ok {φ : Type} {S : Store} {id st n : Nat} {k : Option (Out φ)} {f : φ} (h : Good (curC S id st n k) f) : cur S id st n ∧ Good k f := by
  unfold curC at h
  split at h
  · rename_i s d hs
    obtain ⟨h1, h2⟩ := good_chk h
    obtain ⟨h3, h4⟩ := good_eqc h2
    exact ⟨by simp only [cur, hs]; exact ⟨by simpa using h1, by simpa using h3⟩, h4⟩
  · exact (good_none h).elim
def isBxB (S : Store) (id : Nat) : Bool := match sget S id with | some (.box _) => true | some .hol => true | _ => false
theorem isBxB_ok {S : Store} {id : Nat} (h : isBxB S id = true) : isBx S id := by
  unfold isBxB at h
  split at h
  · rename_i hs; simp only [isBx, hs]
  · rename_i hs; simp only [isBx, hs]
  · cases h

def wkD {φ : Type} (d' d : D) (k : Option (Out φ)) : Option (Out φ) := match d with
  | .val (.slice none 0 0) => (match d' with
    | .sl _ _ rows => eqc (.r rows) (.r []) k
    | d' => eqc (.d d') (.d (.val (.slice none 0 0))) k)
  | d => eqc (.d d') (.d d) k
theorem wkD_ok {φ : Type} {d' d : D} {k : Option (Out φ)} {f : φ} (h : Good (wkD d' d k) f) : DLe d d' ∧ Good k f := by
  unfold wkD at h
  split at h
  · split at h
    · obtain ⟨h1, h2⟩ := good_eqc h
      obtain rfl := Cmp.r.inj h1
      exact ⟨DLe.nil _ _, h2⟩
    · obtain ⟨h1, h2⟩ := good_eqc h
      obtain rfl := Cmp.d.inj h1
      exact ⟨DLe.refl _, h2⟩
  · obtain ⟨h1, h2⟩ := good_eqc h
    obtain rfl := Cmp.d.inj h1
    exact ⟨DLe.refl _, h2⟩

mutual
def wkA {φ : Type} (S S' : Store) (ρ : List (Nat × Nat)) : AV → AV → Option (Out φ) → Option (Out φ)
  | .un, _, k => k
  | .pu d', a, k => (match a with
    | .pu d => wkD d' d k
    | .so id st n => (match sget S id with
      | some (.slc s (.sl false sz rows)) => chk (s == st) (eqc (.n n) (.n rows.length) (eqc (.d d') (.d (.sl false sz rows)) k))
      | _ => none)
    | _ => none)
  | .ag l', a, k => (match a with | .ag l => wkAs S S' ρ l' l k | _ => none)
  | .tp l', a, k => (match a with | .tp l => wkAs S S' ρ l' l k | _ => none)
  | .cl f' l', a, k => (match a with | .cl f l => chk (f' == f) (wkAs S S' ρ l' l k) | _ => none)
  | .ob id' off', a, k => (match a with | .ob id off => chk (id == rho ρ id' && off' == off && isBxB S id && isBxB S' id') k | _ => none)
  | .so id' st' n', a, k => (match a with
    | .so id st n => chk (id == rho ρ id') (eqc (.n n') (.n n) (curC S id st n (curC S' id' st' n' k)))
    | .pu (.val (.slice none 0 0)) => chk (sget S (rho ρ id')).isNone (eqc (.n n') (.n 0) (curC S' id' st' n' k))
    | _ => none)
  | .ep _ _ _ _ _, _, _ => none
def wkAs {φ : Type} (S S' : Store) (ρ : List (Nat × Nat)) : List AV → List AV → Option (Out φ) → Option (Out φ)
  | [], l, k => (match l with | [] => k | _ => none)
  | a' :: l', l, k => (match l with | a :: l => wkA S S' ρ a' a (wkAs S S' ρ l' l k) | _ => none)
end

/-- What stands for what: objects are named anew, dropped ones forgotten, new ones are empty slices. -/
def G.wr (g : G) (S : Store) (ρ : List (Nat × Nat)) : G := ⟨fun i => if (sget S (rho ρ i)).isNone then nilS else g.loc (rho ρ i), fun i => if (sget S (rho ρ i)).isNone then [] else g.bl (rho ρ i), g.m⟩

/-- One abstract value stands for another. -/
def Rn (S S' : Store) (ρ : List (Nat × Nat)) (a' a : AV) : Prop := ∀ (F : Fr) (g : G) (v : Value), RC F S g → RA S g a v → RA S' (g.wr S ρ) a' v
def Rns (S S' : Store) (ρ : List (Nat × Nat)) (a' a : List AV) : Prop := ∀ (F : Fr) (g : G) (v : List Value), RC F S g → RAs S g a v → RAs S' (g.wr S ρ) a' v

mutual
theorem wkA_ok {φ : Type} {S S' : Store} {ρ : List (Nat × Nat)} {f : φ} : ∀ (a' a : AV) (k : Option (Out φ)), Good (wkA S S' ρ a' a k) f → Rn S S' ρ a' a ∧ Good k f
  | .un, a, k, h => by
    simp only [wkA] at h
    exact ⟨fun F g v hr r => by simp only [RA], h⟩
  | .pu d', a, k, h => by
    simp only [wkA] at h
    split at h
    · obtain ⟨h1, h2⟩ := wkD_ok h
      exact ⟨fun F g v hr r => by simp only [RA] at r ⊢; exact h1 _ _ _ r, h2⟩
    · rename_i id st n
      split at h
      · rename_i s sz rows hs
        obtain ⟨h1, h⟩ := good_chk h
        obtain ⟨h2, h⟩ := good_eqc h
        obtain ⟨h3, h⟩ := good_eqc h
        refine ⟨fun F g v hr r => ?_, h⟩
        obtain rfl := Cmp.d.inj h3
        obtain rfl : s = st := by simpa using h1
        simp only [RA] at r ⊢
        obtain ⟨st', d, k1, k2, k3⟩ := r
        rw [hs] at k1
        obtain ⟨rfl, rfl⟩ : s = st' ∧ D.sl false sz rows = d := by simpa using k1
        obtain ⟨_, k4⟩ := hr.obj id _ hs
        rw [(k3 rfl).2 (by simpa [D.len] using h2)]
        have hbl : g.bl id = [] := by simp only [R] at k4; exact k4.2.1
        rw [hbl] at k4
        exact k4
      · exact (good_none h).elim
    · exact (good_none h).elim
  | .ag l', a, k, h => by
    simp only [wkA] at h
    split at h
    · obtain ⟨h1, h2⟩ := wkAs_ok l' _ k h
      exact ⟨fun F g v hr r => by simp only [RA] at r ⊢; obtain ⟨us, e1, e2⟩ := r; exact ⟨us, e1, h1 F g us hr e2⟩, h2⟩
    · exact (good_none h).elim
  | .tp l', a, k, h => by
    simp only [wkA] at h
    split at h
    · obtain ⟨h1, h2⟩ := wkAs_ok l' _ k h
      exact ⟨fun F g v hr r => by simp only [RA] at r ⊢; obtain ⟨us, e1, e2⟩ := r; exact ⟨us, e1, h1 F g us hr e2⟩, h2⟩
    · exact (good_none h).elim
  | .cl f' l', a, k, h => by
    simp only [wkA] at h
    split at h
    · obtain ⟨h0, h⟩ := good_chk h
      obtain ⟨h1, h2⟩ := wkAs_ok l' _ k h
      obtain rfl : f' = _ := by simpa using h0
      exact ⟨fun F g v hr r => by simp only [RA] at r ⊢; obtain ⟨us, e1, e2⟩ := r; exact ⟨us, e1, h1 F g us hr e2⟩, h2⟩
    · exact (good_none h).elim
  | .ob id' off', a, k, h => by
    simp only [wkA] at h
    split at h
    · rename_i id off
      obtain ⟨h0, hk⟩ := good_chk h
      simp only [Bool.and_eq_true, beq_iff_eq] at h0
      obtain ⟨⟨⟨rfl, rfl⟩, h1⟩, h2⟩ := h0
      refine ⟨fun F g v hr r => ?_, hk⟩
      simp only [RA] at r ⊢
      obtain ⟨⟨o, k0, _⟩, b, k1, k2⟩ := r
      exact ⟨isBx_ok (isBxB_ok h2), b, by simp [G.wr, k0, k1], k2⟩
    · exact (good_none h).elim
  | .so id' st' n', a, k, h => by
    simp only [wkA] at h
    split at h
    · rename_i id st n
      obtain ⟨h0, h⟩ := good_chk h
      obtain ⟨h1, h⟩ := good_eqc h
      obtain ⟨h2, h⟩ := curC_ok h
      obtain ⟨h3, h⟩ := curC_ok h
      refine ⟨fun F g v hr r => ?_, h⟩
      obtain rfl : id = rho ρ id' := by simpa using h0
      obtain rfl := Cmp.n.inj h1
      obtain ⟨d, e1, e2⟩ := cur_ok h2
      obtain ⟨d', e3, e4⟩ := cur_ok h3
      simp only [RA] at r ⊢
      obtain ⟨st2, d2, k1, k2, k3⟩ := r
      rw [e1] at k1
      obtain ⟨rfl, rfl⟩ : st = st2 ∧ d = d2 := by simpa using k1
      exact ⟨st', d', e3, Nat.le_refl _, fun _ => ⟨by omega, fun _ => by simp [G.wr, e1]; exact (k3 rfl).2 e2⟩⟩
    · obtain ⟨h0, h⟩ := good_chk h
      obtain ⟨h1, h⟩ := good_eqc h
      obtain ⟨h3, h⟩ := curC_ok h
      refine ⟨fun F g v hr r => ?_, h⟩
      obtain rfl := Cmp.n.inj h1
      obtain ⟨d', e3, e4⟩ := cur_ok h3
      simp only [RA, R] at r ⊢
      exact ⟨st', d', e3, Nat.le_refl _, fun _ => ⟨by omega, fun _ => by simp only [G.wr, h0, if_true]; exact r.2⟩⟩
    · exact (good_none h).elim
  | .ep _ _ _ _ _, a, k, h => by simp only [wkA] at h; exact (good_none h).elim
theorem wkAs_ok {φ : Type} {S S' : Store} {ρ : List (Nat × Nat)} {f : φ} : ∀ (l' l : List AV) (k : Option (Out φ)), Good (wkAs S S' ρ l' l k) f → Rns S S' ρ l' l ∧ Good k f
  | [], l, k, h => by
    simp only [wkAs] at h
    split at h
    · exact ⟨fun F g v hr r => by simpa only [RAs] using r, h⟩
    · exact (good_none h).elim
  | a' :: l', l, k, h => by
    simp only [wkAs] at h
    split at h
    · rename_i a l
      obtain ⟨h1, h⟩ := wkA_ok a' a _ h
      obtain ⟨h2, h⟩ := wkAs_ok l' l _ h
      refine ⟨fun F g v hr r => ?_, h⟩
      simp only [RAs] at r ⊢
      obtain ⟨u, us', e1, e2, e3⟩ := r
      exact ⟨u, us', e1, h1 F g u hr e2, h2 F g us' hr e3⟩
    · exact (good_none h).elim
end

def wkO {φ : Type} (S S' : Store) (ρ : List (Nat × Nat)) (i : Nat) (o' : OB) (k : Option (Out φ)) : Option (Out φ) := match o' with
  | .box cells' => (match sget S (rho ρ i) with | some (.box cells) => wkAs S S' ρ cells' cells k | _ => none)
  | .hol => (match sget S (rho ρ i) with | some .hol => k | _ => none)
  | .slc _ d' => (match sget S (rho ρ i) with
    | some (.slc _ d) => eqc (.d d') (.d d) k
    | none => (match d' with | .sl true _ rows => eqc (.r rows) (.r []) k | _ => none)
    | _ => none)
/-- An object stands for another. -/
def On (S S' : Store) (ρ : List (Nat × Nat)) (i : Nat) : OB → Prop
  | .box cells' => ∃ cells, sget S (rho ρ i) = some (.box cells) ∧ Rns S S' ρ cells' cells
  | .hol => sget S (rho ρ i) = some .hol
  | .slc _ d' => (∃ st, sget S (rho ρ i) = some (.slc st d')) ∨ (sget S (rho ρ i) = none ∧ ∃ sz, d' = .sl true sz [])
theorem wkO_ok {φ : Type} {S S' : Store} {ρ : List (Nat × Nat)} {i : Nat} {f : φ} {o' : OB} {k : Option (Out φ)} (h : Good (wkO S S' ρ i o' k) f) : On S S' ρ i o' ∧ Good k f := by
  cases o' with
  | box cells' =>
    simp only [wkO] at h
    split at h
    · rename_i cells hs
      obtain ⟨h1, h⟩ := wkAs_ok _ _ _ h
      exact ⟨⟨cells, hs, h1⟩, h⟩
    · exact (good_none h).elim
  | hol =>
    simp only [wkO] at h
    split at h
    · rename_i hs; exact ⟨hs, h⟩
    · exact (good_none h).elim
  | slc st d' =>
    simp only [wkO] at h
    split at h
    · rename_i st0 d hs
      obtain ⟨h1, hk⟩ := good_eqc h
      obtain rfl := Cmp.d.inj h1
      exact ⟨.inl ⟨st0, hs⟩, hk⟩
    · rename_i hs
      split at h
      · rename_i sz rows
        obtain ⟨h1, hk⟩ := good_eqc h
        obtain rfl := Cmp.r.inj h1
        exact ⟨.inr ⟨hs, sz, rfl⟩, hk⟩
      · exact (good_none h).elim
    · exact (good_none h).elim
def wkE {φ : Type} (E : Env) (S S' : Store) (ρ : List (Nat × Nat)) : Env → Option (Out φ) → Option (Out φ)
  | [], k => k
  | (t, a') :: l, k => wkA S S' ρ a' (eget E t) (wkE E S S' ρ l k)
def wkS {φ : Type} (S S' : Store) (ρ : List (Nat × Nat)) : Store → Option (Out φ) → Option (Out φ)
  | [], k => k
  | (i, o') :: l, k => wkO S S' ρ i o' (wkS S S' ρ l k)
theorem wkE_ok {φ : Type} {E : Env} {S S' : Store} {ρ : List (Nat × Nat)} {f : φ} : ∀ (E' : Env) (k : Option (Out φ)), Good (wkE E S S' ρ E' k) f → (∀ t, Rn S S' ρ (eget E' t) (eget E t)) ∧ Good k f
  | [], k, h => ⟨fun t F g v hr r => by simp only [eget, RA], h⟩
  | (t', a') :: l, k, h => by
    simp only [wkE] at h
    obtain ⟨h1, h⟩ := wkA_ok _ _ _ h
    obtain ⟨h2, h⟩ := wkE_ok l k h
    refine ⟨fun t => ?_, h⟩
    simp only [eget]
    split
    · rename_i he; subst he; exact h1
    · exact h2 t
theorem wkS_ok {φ : Type} {S S' : Store} {ρ : List (Nat × Nat)} {f : φ} : ∀ (T : Store) (k : Option (Out φ)), Good (wkS S S' ρ T k) f → (∀ i o, sget T i = some o → On S S' ρ i o) ∧ Good k f
  | [], k, h => ⟨fun i o ho => by simp [sget] at ho, h⟩
  | (i', o') :: l, k, h => by
    simp only [wkS] at h
    obtain ⟨h1, h⟩ := wkO_ok h
    obtain ⟨h2, h⟩ := wkS_ok l k h
    refine ⟨fun i o ho => ?_, h⟩
    simp only [sget] at ho
    split at ho
    · rename_i he; subst he; obtain rfl := Option.some.inj ho; exact h1
    · exact h2 i o ho

def nodupB : List Nat → Bool
  | [] => true
  | a :: l => !l.contains a && nodupB l
theorem nodupB_ok : ∀ {l : List Nat}, nodupB l = true → l.Nodup
  | [], _ => by simp
  | a :: l, h => by
    simp only [nodupB, Bool.and_eq_true] at h
    exact List.nodup_cons.2 ⟨by simpa using h.1, nodupB_ok h.2⟩
def pinB (S' : Store) (ρ : List (Nat × Nat)) : List Nat → Bool
  | [] => true
  | i :: l => rho ρ i == i && isBxB S' i && pinB S' ρ l
theorem pinB_ok {S' : Store} {ρ : List (Nat × Nat)} : ∀ {l : List Nat}, pinB S' ρ l = true → ∀ i ∈ l, rho ρ i = i ∧ isBx S' i
  | [], _, i, h => by simp at h
  | j :: l, h, i, hi => by
    simp only [pinB, Bool.and_eq_true, beq_iff_eq] at h
    rcases List.mem_cons.1 hi with rfl | hi'
    · exact ⟨h.1.1, isBxB_ok h.1.2⟩
    · exact (pinB_ok h.2 i) hi'
def wkSt {φ : Type} (pn : List Nat) (ρ : List (Nat × Nat)) (s t : St) (k : Option (Out φ)) : Option (Out φ) :=
  chk (nodupB ((t.2.map (·.1)).map (rho ρ)) && pinB t.2 ρ pn) (wkE s.1 s.2 t.2 ρ t.1 (wkS s.2 t.2 ρ t.2 k))

theorem sget_mem {S : Store} : ∀ {i : Nat}, sget S i ≠ none → i ∈ S.map (·.1) := by
  induction S with
  | nil => intro i h; simp [sget] at h
  | cons p l ih =>
    intro i h
    obtain ⟨t, o⟩ := p
    simp only [sget] at h
    by_cases he : t = i
    · subst he; simp
    · rw [if_neg he] at h; simp only [List.map_cons, List.mem_cons]; exact .inr (ih h)
theorem inj_of_nodup {l : List Nat} {f : Nat → Nat} (h : (l.map f).Nodup) {i j : Nat} (hi : i ∈ l) (hj : j ∈ l) (hij : i ≠ j) : f i ≠ f j := by
  induction l with
  | nil => simp at hi
  | cons a l ih =>
    simp only [List.map_cons, List.nodup_cons] at h
    rcases List.mem_cons.1 hi with rfl | hi'
    · rcases List.mem_cons.1 hj with rfl | hj'
      · exact absurd rfl hij
      · intro e; exact h.1 (e ▸ List.mem_map.2 ⟨j, hj', rfl⟩)
    · rcases List.mem_cons.1 hj with rfl | hj'
      · intro e; exact h.1 (e ▸ List.mem_map.2 ⟨i, hi', rfl⟩)
      · exact ih h.2 hi' hj'

theorem wkSt_ok {φ : Type} {pn : List Nat} {ρ : List (Nat × Nat)} {s t : St} {k : Option (Out φ)} {f : φ} (h : Good (wkSt pn ρ s t k) f) : Weak pn s t ∧ Good k f := by
  obtain ⟨E, S⟩ := s
  obtain ⟨E', S'⟩ := t
  unfold wkSt at h
  obtain ⟨h0, h⟩ := good_chk h
  obtain ⟨hE, h⟩ := wkE_ok _ _ h
  obtain ⟨hS, h⟩ := wkS_ok _ _ h
  simp only [Bool.and_eq_true] at h0 hE hS
  have hnd := nodupB_ok h0.1
  have hpn := fun i hi => pinB_ok h0.2 i hi
  refine ⟨fun F pv g tm hpv hr => ?_, h⟩
  have hrc := hr.rel.rc
  refine ⟨g.wr S ρ, rfl, ⟨fun u => hE u F g _ hrc (hr.rel.env u), ?_⟩, fun q hq => ?_⟩
  · have some_of : ∀ i b, b ∈ (g.wr S ρ).bl i → sget S (rho ρ i) ≠ none ∧ b ∈ g.bl (rho ρ i) := by
      intro i b hb
      simp only [G.wr] at hb
      split at hb
      · simp at hb
      · rename_i hn; exact ⟨by simpa using hn, hb⟩
    refine { obj := fun i o ho => ?_, nodup := fun i hn => ?_, disj := fun i j hij hi hj b hb hb' => ?_, range := fun i hn b hb => ?_, wf := hrc.wf, size := hrc.size, keep := hrc.keep, os := hrc.os, tape := hrc.tape, output := hrc.output }
    · have hm := hS i o ho
      cases o with
      | box cells' =>
        obtain ⟨cells, hc, hm⟩ := hm
        obtain ⟨b, t, us, h1, h2, h3, h4, h5, h6⟩ := hrc.obj _ _ hc
        exact ⟨b, t, us, by simp [G.wr, hc, h1], by simp [G.wr, hc, h2], h3, h4, hm F g us hrc h5, h6⟩
      | hol =>
        have hc : sget S (rho ρ i) = some .hol := hm
        obtain ⟨⟨b, h1⟩, h2⟩ := hrc.obj _ _ hc
        exact ⟨⟨b, by simp [G.wr, hc, h1]⟩, by simp [G.wr, hc, h2]⟩
      | slc st' d' =>
        rcases hm with ⟨st, hc⟩ | ⟨hc, sz, rfl⟩
        · obtain ⟨h1, h2⟩ := hrc.obj _ _ hc
          exact ⟨h1, by simpa [G.wr, hc] using h2⟩
        · exact ⟨⟨true, sz, [], rfl⟩, by simp [G.wr, hc, R]⟩
    · simp only [G.wr]
      split
      · simp
      · rename_i h; exact hrc.nodup _ (by simpa using h)
    · obtain ⟨h1, h2⟩ := some_of i b hb
      obtain ⟨h3, h4⟩ := some_of j b hb'
      exact hrc.disj _ _ (inj_of_nodup hnd (sget_mem hi) (sget_mem hj) hij) h1 h3 b h2 h4
    · obtain ⟨h1, h2⟩ := some_of i b hb
      exact hrc.range _ h1 b h2
  · obtain ⟨h1, o, h2, h3⟩ := hr.pin q hq
    have hi : q.1 ∈ pn := by rw [← hpv]; exact List.mem_map.2 ⟨q, hq, rfl⟩
    obtain ⟨k1, k2⟩ := hpn _ hi
    exact ⟨by simp [G.wr, k1, h2, h1], isBx_ok k2⟩

/-- An object's data are told in other words. -/
theorem Weak.gle {pn : List Nat} (E : Env) (S : Store) {id st : Nat} {d d' : D} (hs : sget S id = some (.slc st d)) (h : DLe d d') (hd : ∃ own sz rows, d' = .sl own sz rows) (hl : d'.len = d.len) (hz : d'.szOf = d.szOf) : Weak pn (E, S) (E, (id, .slc st d') :: S) := by
  intro F pv g tm hpv hr
  have hidn : sget S id ≠ none := by rw [hs]; simp
  have htr : TrS S g ((id, .slc st d') :: S) g := ⟨MemLe.refl _, fun j oj hj => by
    by_cases hji : j = id
    · subst hji
      rw [hs] at hj
      obtain rfl := Option.some.inj hj
      exact ⟨st, _, sget_cons_eq, Nat.le_refl _, fun _ => ⟨by omega, hz, fun _ => rfl⟩⟩
    · exact TrO.same (by rw [sget_cons_ne hji]; exact hj) rfl⟩
  refine ⟨g, rfl, ⟨fun t => RA_tr htr _ _ (hr.rel.env t), hr.rel.rc.update (· = id) htr ⟨hr.rel.rc.wf, Nat.le_refl _, fun _ _ _ => ⟨rfl, rfl⟩, rfl, rfl, rfl⟩ (fun j hj => ⟨sget_cons_ne hj, rfl, rfl⟩) (fun j _ _ b _ => ⟨rfl, rfl⟩) ?_ ?_⟩, hr.pin.tr htr⟩
  · rintro j oj rfl hj
    rw [sget_cons_eq] at hj
    obtain rfl := Option.some.inj hj
    obtain ⟨_, hro⟩ := hr.rel.rc.obj _ _ hs
    exact ⟨⟨hd, h _ _ _ hro⟩, hr.rel.rc.nodup _ hidn, hr.rel.rc.range _ hidn⟩
  · rintro i j rfl hij _ hj b hb
    rw [sget_cons_ne (Ne.symm hij)] at hj
    exact hr.rel.rc.disj _ _ hij hidn hj b hb

end Go.Proofs.YtcaemkcglflmnaaDoor.Vm
