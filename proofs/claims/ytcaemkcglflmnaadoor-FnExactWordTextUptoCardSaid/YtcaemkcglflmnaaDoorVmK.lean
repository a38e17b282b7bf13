/-
  The abstract machine, part K: calls that are handed variables, and that hand back what they made. Conditions: none.
-/
import Derived.Test.YtcaemkcglflmnaaDoorVmJ
namespace Go.Proofs.YtcaemkcglflmnaaDoor.Vm
open Go Go.RowKit
variable [Tbl]
set_option linter.unusedSimpArgs false
set_option linter.unusedVariables false
set_option linter.unusedSectionVars false

def lendC (S : Store) : AV → Option (Prop × D × Store)
  | .pu d => some (True, d, S)
  | .so id st n => match sget S id with
    | some (.slc st' (.sl true sz rows)) => some (st = st' ∧ n = rows.length, .sl true sz rows, (id, .slc (st' + 1) (.sl true 0 [])) :: S)
    | some (.slc st' (.sl false sz rows)) => some (st = st' ∧ n = rows.length, .sl false sz rows, S)
    | _ => none
  | _ => none
def lendCs (S : Store) : List AV → Option (Prop × List D × Store)
  | [] => some (True, [], S)
  | a :: l => match lendC S a with
    | some (p, d, S1) => match lendCs S1 l with | some (q, ds, S2) => some (p ∧ q, d :: ds, S2) | none => none
    | none => none
def argG (S1 S : Store) : AV → Option (Prop × A × List (Nat × List AV) × Store)
  | .ob id off => match off, sget S id with
    | 0, some (.box cells) => match lendCs S cells with | some (p, ds, S2) => some (p, .bx ds, [(id, cells)], (id, .hol) :: S2) | none => none
    | _, _ => none
  | a => match view S1 a with | some (p, d) => some (p, .v d, [], S) | none => none
def argsG (S1 S : Store) : List AV → Option (Prop × List A × List (Nat × List AV) × Store)
  | [] => some (True, [], [], S)
  | a :: l => match argG S1 S a with
    | some (p, x, ln, S2) => match argsG S1 S2 l with | some (q, xs, lns, S3) => some (p ∧ q, x :: xs, ln ++ lns, S3) | none => none
    | none => none

def absC (S : Store) (id : Nat) : D → Option (AV × Store)
  | .sl true sz rows => match newSt S id with | some st => some (.so id st rows.length, (id, .slc st (.sl true sz rows)) :: S) | none => none
  | .ag _ => none
  | .tp _ => none
  | .cl _ _ => none
  | d => some (.pu d, S)
def absCs (S : Store) (ids : Nat → Nat) : Nat → List D → Option (List AV × Store)
  | _, [] => some ([], S)
  | j, d :: ds => match absC S (ids j) d with
    | some (a, S1) => match absCs S1 ids (j + 1) ds with | some (l, S2) => some (a :: l, S2) | none => none
    | none => none
def abs1 (S : Store) (k : Nat) : D → Option (AV × Store)
  | .ag ds => match absCs S (fun j => k + j) 0 ds with | some (l, S1) => some (.ag l, S1) | none => none
  | d => absC S k d
def abs1s (S : Store) (k : Nat) : List D → Option (List AV × Store)
  | [] => some ([], S)
  | d :: ds => match abs1 S k d with
    | some (a, S1) => match abs1s S1 (k + 16) ds with | some (l, S2) => some (a :: l, S2) | none => none
    | none => none
def absRes (S : Store) (dst : Nat) : D → Option (AV × Store)
  | .tp ds => match abs1s S (1000 + 256 * dst) ds with | some (l, S1) => some (.tp l, S1) | none => none
  | .ag ds => abs1 S (1000 + 256 * dst) (.ag ds)
  | d => absC S dst d
def backId (cells : List AV) (id : Nat) (j : Nat) : Nat := match cells[j]? with | some (.so i _ _) => i | _ => 1000000 + 16 * id + j
def backG (S : Store) : List A → List (Nat × List AV) → Option Store
  | [], [] => some S
  | .v _ :: os, l => backG S os l
  | .bx ds :: os, (id, cells) :: l => match absCs S (backId cells id) 0 ds with
    | some (l', S1) => backG ((id, .box l') :: S1) os l
    | none => none
  | _, _ => none

def shape : List A → List Bool
  | [] => []
  | .v _ :: l => false :: shape l
  | .bx _ :: l => true :: shape l

def ALes : List A → List A → Prop
  | [], [] => True
  | .v d :: l, .v d' :: l' => DLe d d' ∧ ALes l l'
  | .bx ds :: l, .bx ds' :: l' => DLes ds ds' ∧ ALes l l'
  | _, _ => False
theorem ALes.refl : ∀ l : List A, ALes l l
  | [] => trivial
  | .v d :: l => ⟨DLe.refl d, ALes.refl l⟩
  | .bx ds :: l => ⟨DLes.refl ds, ALes.refl l⟩

/-- Boxes that are as they were. -/
def SameBox (S S' : Store) (g g' : G) : Prop := ∀ i o, sget S i = some o → o.isBox = true → sget S' i = some o ∧ g'.bl i = g.bl i ∧ g'.loc i = g.loc i
theorem SameBox.refl (S : Store) (g : G) : SameBox S S g g := fun i o h _ => ⟨h, rfl, rfl⟩
theorem SameBox.trans {S S' S'' : Store} {g g' g'' : G} (h : SameBox S S' g g') (k : SameBox S' S'' g' g'') : SameBox S S'' g g'' := fun i o ho hb => by
  obtain ⟨h1, h2, h3⟩ := h i o ho hb
  obtain ⟨k1, k2, k3⟩ := k i o h1 hb
  exact ⟨k1, k2.trans h2, k3.trans h3⟩

def NoNew (S S' : Store) : Prop := ∀ i c, sget S' i = some (.box c) → sget S i = some (.box c)

theorem lendC_ok {F : Fr} {S : Store} {g : G} {fl : List Nat} (h : RCF F S g fl) {a : AV} {u : Value} (hr : RA S g a u) {p : Prop} {d : D} {S' : Store} (hl : lendC S a = some (p, d, S')) (hp : p) :
    ∃ g' bs, g'.m = g.m ∧ RCF F S' g' (fl ++ bs) ∧ TrS S g S' g' ∧ R g.m d bs u ∧ SameBox S S' g g' ∧ NoNew S S' := by
  unfold lendC at hl
  split at hl
  · simp only [Option.some.injEq, Prod.mk.injEq] at hl
    obtain ⟨rfl, rfl, rfl⟩ := hl
    simp only [RA] at hr
    exact ⟨g, [], rfl, by simpa using h, TrS.refl _ _, hr, SameBox.refl _ _, fun _ _ e => e⟩
  · rename_i id st n
    simp only [RA] at hr
    obtain ⟨st', d', h1, h2, h3⟩ := hr
    rw [h1] at hl
    obtain ⟨_, hro⟩ := h.rc.obj id _ h1
    split at hl
    · rename_i st0 sz rows he
      simp only [Option.some.injEq, OB.slc.injEq] at he
      obtain ⟨rfl, rfl⟩ := he
      simp only [Option.some.injEq, Prod.mk.injEq] at hl
      obtain ⟨rfl, rfl, rfl⟩ := hl
      obtain ⟨rfl, rfl⟩ := hp
      obtain ⟨k1, k2⟩ := h.take h1
      refine ⟨g.upd id nilS [] g.m, g.bl id, rfl, k1, k2, by rw [(h3 rfl).2 rfl]; exact hro, fun i o ho hb => ?_, fun i c hc => ?_⟩
      · have hii : i ≠ id := by rintro rfl; rw [h1] at ho; obtain rfl := Option.some.inj ho; cases hb
        exact ⟨by rw [sget_cons_ne hii]; exact ho, by simp [G.upd, hii], by simp [G.upd, hii]⟩
      · by_cases hi : i = id
        · subst hi; rw [sget_cons_eq] at hc; cases hc
        · rwa [sget_cons_ne hi] at hc
    · rename_i st0 sz rows he
      simp only [Option.some.injEq, OB.slc.injEq] at he
      obtain ⟨rfl, rfl⟩ := he
      simp only [Option.some.injEq, Prod.mk.injEq] at hl
      obtain ⟨rfl, rfl, rfl⟩ := hl
      obtain ⟨rfl, rfl⟩ := hp
      have hbl : g.bl id = [] := by simp only [R] at hro; exact hro.2.1
      rw [hbl] at hro
      exact ⟨g, [], rfl, by simpa using h, TrS.refl _ _, by rw [(h3 rfl).2 rfl]; exact hro, SameBox.refl _ _, fun _ _ e => e⟩
    · cases hl
  · cases hl

theorem lendCs_ok {F : Fr} : ∀ {l : List AV} {S : Store} {g : G} {fl : List Nat} {us : List Value} {p : Prop} {ds : List D} {S' : Store}, RCF F S g fl → RAs S g l us → lendCs S l = some (p, ds, S') → p →
    ∃ g' bs, g'.m = g.m ∧ RCF F S' g' (fl ++ bs) ∧ TrS S g S' g' ∧ RL g.m ds bs us ∧ SameBox S S' g g' ∧ NoNew S S'
  | [], S, g, fl, us, p, ds, S', h, hr, hl, hp => by
    simp only [lendCs, Option.some.injEq, Prod.mk.injEq] at hl
    obtain ⟨rfl, rfl, rfl⟩ := hl
    simp only [RAs] at hr
    exact ⟨g, [], rfl, by simpa using h, TrS.refl _ _, by simp [RL, hr], SameBox.refl _ _, fun _ _ e => e⟩
  | a :: l, S, g, fl, us, p, ds, S', h, hr, hl, hp => by
    simp only [lendCs] at hl
    split at hl
    · rename_i p1 d S1 h1
      split at hl
      · rename_i q ds' S2 h2
        simp only [Option.some.injEq, Prod.mk.injEq] at hl
        obtain ⟨rfl, rfl, rfl⟩ := hl
        simp only [RAs] at hr
        obtain ⟨u, us', rfl, r1, r2⟩ := hr
        obtain ⟨g1, b1, e1, k1, k2, k3, k4, k5⟩ := lendC_ok h r1 h1 hp.1
        obtain ⟨g2, b2, e2, q1, q2, q3, q4, q5⟩ := lendCs_ok k1 (RAs_tr k2 _ _ r2) h2 hp.2
        rw [e1] at q3
        exact ⟨g2, b1 ++ b2, e2.trans e1, by rw [← List.append_assoc]; exact q1, k2.trans q2, by simp only [RL]; exact ⟨u, us', b1, b2, rfl, rfl, k3, q3⟩, k4.trans q4, fun i c hc => k5 i c (q5 i c hc)⟩
      · cases hl
    · cases hl

/-- The variables that are lent, as they stand while they are lent. -/
def LV (S : Store) (g : G) : List A → List (Nat × List AV) → List Value → Prop
  | [], [], [] => True
  | .v _ :: as, l, _ :: vs => LV S g as l vs
  | .bx _ :: as, (id, _) :: l, v :: vs => sget S id = some .hol ∧ g.loc id = v ∧ (∀ q ∈ l, q.1 ≠ id) ∧ LV S g as l vs
  | _, _, _ => False
theorem LV.mono {S S' : Store} {g g' : G} : ∀ {as : List A} {l : List (Nat × List AV)} {vs : List Value}, (∀ q ∈ l, sget S q.1 = some .hol → sget S' q.1 = some .hol ∧ g'.loc q.1 = g.loc q.1) → LV S g as l vs → LV S' g' as l vs
  | [], [], [], _, _ => trivial
  | .v _ :: as, l, _ :: vs, h, k => LV.mono (as := as) h k
  | .bx _ :: as, (id, c) :: l, v :: vs, h, k => by
    have := h (id, c) (by simp) k.1
    exact ⟨this.1, this.2.trans k.2.1, k.2.2.1, LV.mono (fun q hq => h q (by simp [hq])) k.2.2.2⟩
  | [], [], _ :: _, _, k => k.elim
  | [], _ :: _, _, _, k => k.elim
  | .v _ :: _, _, [], _, k => by simp only [LV] at k
  | .bx _ :: _, [], _, _, k => by simp only [LV] at k
  | .bx _ :: _, _ :: _, [], _, k => by simp only [LV] at k

theorem argG_ok {F : Fr} {S1 S : Store} {g1 g : G} {fl : List Nat} (h1 : RC F S1 g1) (hm : g.m = g1.m) (h : RCF F S g fl) {a : AV} {u : Value} (hr1 : RA S1 g1 a u) (hr : RA S g a u) (hno : ∀ i ∈ pubs1 a, ¬ Own S1 i) {p : Prop} {x : A} {ln : List (Nat × List AV)} {S' : Store} (hl : argG S1 S a = some (p, x, ln, S')) (hp : p) :
    ∃ g' bs, g'.m = g.m ∧ RCF F S' g' (fl ++ bs) ∧ TrS S g S' g' ∧ RArg g.m x bs u ∧ (∀ i o, sget S i = some o → o.isBox = true → (∀ q ∈ ln, q.1 ≠ i) → sget S' i = some o ∧ g'.bl i = g.bl i ∧ g'.loc i = g.loc i) ∧
      ((ln = [] ∧ ∃ d, x = .v d) ∨ ∃ id cells ds, ln = [(id, cells)] ∧ x = .bx ds ∧ sget S id = some (.box cells) ∧ sget S' id = some .hol ∧ g'.loc id = u) ∧ NoNew S S' := by
  have byview : ∀ (p : Prop) (d : D), view S1 a = some (p, d) → p → R g.m d [] u := by
    intro p d hv hp
    have := view_ok h1 [] hv hp (fun i hi ho => absurd ho (hno i hi)) hr1
    have e : (⟨g1.m.w, lentIm g1 []⟩ : Mem) = g1.m := by
      have : lentIm g1 [] = g1.m.im := by funext b; simp [lentIm]
      rw [this]
    rw [e] at this
    rwa [hm]
  have fin : ∀ (hl : (match view S1 a with | some (p, d) => some (p, A.v d, ([] : List (Nat × List AV)), S) | none => none) = some (p, x, ln, S')), ∃ g' bs, g'.m = g.m ∧ RCF F S' g' (fl ++ bs) ∧ TrS S g S' g' ∧ RArg g.m x bs u ∧ (∀ i o, sget S i = some o → o.isBox = true → (∀ q ∈ ln, q.1 ≠ i) → sget S' i = some o ∧ g'.bl i = g.bl i ∧ g'.loc i = g.loc i) ∧
      ((ln = [] ∧ ∃ d, x = .v d) ∨ ∃ id cells ds, ln = [(id, cells)] ∧ x = .bx ds ∧ sget S id = some (.box cells) ∧ sget S' id = some .hol ∧ g'.loc id = u) ∧ NoNew S S' := by
    intro hl
    split at hl
    · rename_i p' d hv
      simp only [Option.some.injEq, Prod.mk.injEq] at hl
      obtain ⟨rfl, rfl, rfl, rfl⟩ := hl
      exact ⟨g, [], rfl, by simpa using h, TrS.refl _ _, ⟨rfl, byview _ _ hv hp⟩, fun i o ho _ _ => ⟨ho, rfl, rfl⟩, .inl ⟨rfl, d, rfl⟩, fun _ _ e => e⟩
    · cases hl
  cases a with
  | ob id off =>
    simp only [argG] at hl
    split at hl
    · rename_i cells hs
      split at hl
      · rename_i p' ds S2 h2
        simp only [Option.some.injEq, Prod.mk.injEq] at hl
        obtain ⟨rfl, rfl, rfl, rfl⟩ := hl
        obtain ⟨b, t, us, k1, k2, k3, k4, k5, k6⟩ := h.rc.obj id _ hs
        obtain ⟨g2, bs, e2, q1, q2, q3, q4, q5⟩ := lendCs_ok h k5 h2 hp
        obtain ⟨s1, s2, s3⟩ := q4 id _ hs rfl
        obtain ⟨w1, w2⟩ := q1.hollow s1
        simp only [RA] at hr
        obtain ⟨_, b', k7, rfl⟩ := hr
        obtain rfl : b' = b := by rw [k7] at k1; simpa [ptr] using k1
        rw [s2, k2] at w1
        refine ⟨g2.upd id (g2.loc id) [] g2.m, b' :: bs, e2, w1.perm ?_, q2.trans w2, ⟨b', t, us, bs, rfl, rfl, k3, k4, q3, k6⟩, fun i o ho hb hne => ?_, .inr ⟨id, cells, ds, rfl, rfl, hs, sget_cons_eq, by simp [G.upd, s3, k7]⟩, fun i c hc => ?_⟩
        · rw [List.append_assoc]
          exact List.Perm.append_left _ List.perm_append_comm
        · have hii : i ≠ id := fun e => hne (id, cells) (by simp) e.symm
          obtain ⟨t1, t2, t3⟩ := q4 i o ho hb
          exact ⟨by rw [sget_cons_ne hii]; exact t1, by simp [G.upd, hii, t2], by simp [G.upd, hii, t3]⟩
        · by_cases hi : i = id
          · subst hi; rw [sget_cons_eq] at hc; cases hc
          · rw [sget_cons_ne hi] at hc; exact q5 i c hc
      · cases hl
    · cases hl
  | _ => exact fin hl

theorem argsG_ok {F : Fr} {S1 : Store} {g1 : G} (h1 : RC F S1 g1) : ∀ {l : List AV} {S : Store} {g : G} {fl : List Nat} {us : List Value} {p : Prop} {xs : List A} {lns : List (Nat × List AV)} {S' : Store}, g.m = g1.m → RCF F S g fl → RAs S1 g1 l us → RAs S g l us → (∀ i ∈ pubs l, ¬ Own S1 i) →
    argsG S1 S l = some (p, xs, lns, S') → p →
    ∃ g' bs, g'.m = g.m ∧ RCF F S' g' (fl ++ bs) ∧ TrS S g S' g' ∧ RArgs g.m xs bs us ∧ (∀ i o, sget S i = some o → o.isBox = true → (∀ q ∈ lns, q.1 ≠ i) → sget S' i = some o ∧ g'.bl i = g.bl i ∧ g'.loc i = g.loc i) ∧ LV S' g' xs lns us ∧ (∀ q ∈ lns, ∃ c, sget S q.1 = some (.box c))
  | [], S, g, fl, us, p, xs, lns, S', hm, h, hr1, hr, _, hl, hp => by
    simp only [argsG, Option.some.injEq, Prod.mk.injEq] at hl
    obtain ⟨rfl, rfl, rfl, rfl⟩ := hl
    simp only [RAs] at hr
    subst hr
    exact ⟨g, [], rfl, by simpa using h, TrS.refl _ _, by simp [RArgs], fun i o ho _ _ => ⟨ho, rfl, rfl⟩, trivial, by simp⟩
  | a :: l, S, g, fl, us, p, xs, lns, S', hm, h, hr1, hr, hno, hl, hp => by
    simp only [argsG] at hl
    split at hl
    · rename_i p1 x ln S2 e1
      split at hl
      · rename_i q xs' lns' S3 e2
        simp only [Option.some.injEq, Prod.mk.injEq] at hl
        obtain ⟨rfl, rfl, rfl, rfl⟩ := hl
        simp only [RAs] at hr hr1
        obtain ⟨u, us', rfl, r1, r2⟩ := hr
        obtain ⟨u0, us0, he, s1, s2⟩ := hr1
        obtain ⟨rfl, rfl⟩ := List.cons.inj he
        obtain ⟨ga, ba, m1, k1, k2, k3, k4, k5, k6⟩ := argG_ok h1 hm h s1 r1 (fun i hi => hno i (by simp [pubs, hi])) e1 hp.1
        obtain ⟨gb, bb, m2, q1, q2, q3, q4, q5, q6⟩ := argsG_ok h1 (m1.trans hm) k1 s2 (RAs_tr k2 _ _ r2) (fun i hi => hno i (by simp [pubs, hi])) e2 hp.2
        rw [m1] at q3
        have keepbox : ∀ i o, sget S i = some o → o.isBox = true → (∀ q ∈ ln ++ lns', q.1 ≠ i) → sget S3 i = some o ∧ gb.bl i = g.bl i ∧ gb.loc i = g.loc i := fun i o ho hb hne => by
          obtain ⟨t1, t2, t3⟩ := k4 i o ho hb (fun q hq => hne q (by simp [hq]))
          obtain ⟨v1, v2, v3⟩ := q4 i o t1 hb (fun q hq => hne q (by simp [hq]))
          exact ⟨v1, v2.trans t2, v3.trans t3⟩
        refine ⟨gb, ba ++ bb, m2.trans m1, by rw [← List.append_assoc]; exact q1, k2.trans q2, ?_, keepbox, ?_, ?_⟩
        · simp only [RArgs]
          exact ⟨u, us', ba, bb, rfl, rfl, k3, q3⟩
        · rcases k5 with ⟨rfl, d, rfl⟩ | ⟨id, cells, ds, rfl, rfl, t0, t1, t2⟩
          · exact q5
          · have hne : ∀ q ∈ lns', q.1 ≠ id := fun q hq e => by
              obtain ⟨c, hc⟩ := q6 q hq
              rw [e, t1] at hc; cases hc
            obtain ⟨v1, v2, v3⟩ := q4 id .hol t1 rfl hne
            exact ⟨v1, v3.trans t2, hne, q5⟩
        · intro q' hq'
          rcases List.mem_append.1 hq' with hq' | hq'
          · rcases k5 with ⟨rfl, _⟩ | ⟨id, cells, ds, rfl, _, t0, _⟩
            · simp at hq'
            · have : q' = (id, cells) := by simpa using hq'
              subst this
              exact ⟨cells, t0⟩
          · obtain ⟨c, hc⟩ := q6 q' hq'
            exact ⟨c, k6 _ _ hc⟩
      · cases hl
    · cases hl

theorem absC_ok {F : Fr} {S : Store} {g : G} {bs fl : List Nat} (h : RCF F S g (bs ++ fl)) {d : D} {u : Value} (hr : R g.m d bs u) {id : Nat} {a : AV} {S' : Store} (hl : absC S id d = some (a, S')) :
    ∃ g', g'.m = g.m ∧ RCF F S' g' fl ∧ TrS S g S' g' ∧ RA S' g' a u ∧ SameBox S S' g g' := by
  have plain : bs = [] → absC S id d = some (.pu d, S) → ∃ g', g'.m = g.m ∧ RCF F S' g' fl ∧ TrS S g S' g' ∧ RA S' g' a u ∧ SameBox S S' g g' := by
    rintro rfl he
    rw [he] at hl
    simp only [Option.some.injEq, Prod.mk.injEq] at hl
    obtain ⟨rfl, rfl⟩ := hl
    exact ⟨g, rfl, by simpa using h, TrS.refl _ _, by simpa only [RA] using hr, SameBox.refl _ _⟩
  cases d with
  | val x => exact plain (by simp only [R] at hr; exact hr.1) rfl
  | rp cells => exact plain (by simp only [R] at hr; exact hr.1) rfl
  | cl f caps => simp [absC] at hl
  | ag cells => simp [absC] at hl
  | tp cells => simp [absC] at hl
  | sl own sz rows =>
    cases own with
    | false => exact plain (by simp only [R] at hr; exact hr.2.1) rfl
    | true =>
      simp only [absC] at hl
      split at hl
      · rename_i st hst
        simp only [Option.some.injEq, Prod.mk.injEq] at hl
        obtain ⟨rfl, rfl⟩ := hl
        obtain ⟨k1, k2, k3⟩ := h.absorb hst hr
        refine ⟨g.upd id u bs g.m, rfl, k1, k2, k3, fun i o ho hb => ?_⟩
        have hii : i ≠ id := by
          rintro rfl
          unfold newSt at hst
          rw [ho] at hst
          cases o <;> first | (cases hst; done) | (cases hb; done)
        exact ⟨by rw [sget_cons_ne hii]; exact ho, by simp [G.upd, hii], by simp [G.upd, hii]⟩
      · cases hl
theorem absCs_ok {F : Fr} {ids : Nat → Nat} : ∀ {ds : List D} {j : Nat} {S : Store} {g : G} {bs fl : List Nat} {us : List Value} {l : List AV} {S' : Store}, RCF F S g (bs ++ fl) → RL g.m ds bs us → absCs S ids j ds = some (l, S') →
    ∃ g', g'.m = g.m ∧ RCF F S' g' fl ∧ TrS S g S' g' ∧ RAs S' g' l us ∧ SameBox S S' g g'
  | [], j, S, g, bs, fl, us, l, S', h, hr, hl => by
    simp only [absCs, Option.some.injEq, Prod.mk.injEq] at hl
    obtain ⟨rfl, rfl⟩ := hl
    simp only [RL] at hr
    obtain ⟨rfl, rfl⟩ := hr
    exact ⟨g, rfl, by simpa using h, TrS.refl _ _, by simp [RAs], SameBox.refl _ _⟩
  | d :: ds, j, S, g, bs, fl, us, l, S', h, hr, hl => by
    simp only [absCs] at hl
    split at hl
    · rename_i a S1 h1
      split at hl
      · rename_i l' S2 h2
        simp only [Option.some.injEq, Prod.mk.injEq] at hl
        obtain ⟨rfl, rfl⟩ := hl
        simp only [RL] at hr
        obtain ⟨u, us', b1, b2, rfl, rfl, r1, r2⟩ := hr
        rw [List.append_assoc] at h
        obtain ⟨g1, m1, k1, k2, k3, k4⟩ := absC_ok h r1 h1
        rw [← m1] at r2
        obtain ⟨g2, m2, q1, q2, q3, q4⟩ := absCs_ok k1 r2 h2
        refine ⟨g2, m2.trans m1, q1, k2.trans q2, ?_, k4.trans q4⟩
        simp only [RAs]
        exact ⟨u, us', rfl, RA_tr q2 _ _ k3, q3⟩
      · cases hl
    · cases hl
theorem abs1_ok {F : Fr} {S : Store} {g : G} {bs fl : List Nat} (h : RCF F S g (bs ++ fl)) {d : D} {u : Value} (hr : R g.m d bs u) {k : Nat} {a : AV} {S' : Store} (hl : abs1 S k d = some (a, S')) :
    ∃ g', g'.m = g.m ∧ RCF F S' g' fl ∧ TrS S g S' g' ∧ RA S' g' a u ∧ SameBox S S' g g' := by
  cases d with
  | ag cells =>
    simp only [abs1] at hl
    split at hl
    · rename_i l S1 h1
      simp only [Option.some.injEq, Prod.mk.injEq] at hl
      obtain ⟨rfl, rfl⟩ := hl
      simp only [R] at hr
      obtain ⟨us, rfl, hr⟩ := hr
      obtain ⟨g', m1, k1, k2, k3, k4⟩ := absCs_ok h hr h1
      exact ⟨g', m1, k1, k2, by simp only [RA]; exact ⟨us, rfl, k3⟩, k4⟩
    · cases hl
  | _ => exact absC_ok (id := k) h hr hl
theorem abs1s_ok {F : Fr} : ∀ {ds : List D} {k : Nat} {S : Store} {g : G} {bs fl : List Nat} {us : List Value} {l : List AV} {S' : Store}, RCF F S g (bs ++ fl) → RL g.m ds bs us → abs1s S k ds = some (l, S') →
    ∃ g', g'.m = g.m ∧ RCF F S' g' fl ∧ TrS S g S' g' ∧ RAs S' g' l us ∧ SameBox S S' g g'
  | [], j, S, g, bs, fl, us, l, S', h, hr, hl => by
    simp only [abs1s, Option.some.injEq, Prod.mk.injEq] at hl
    obtain ⟨rfl, rfl⟩ := hl
    simp only [RL] at hr
    obtain ⟨rfl, rfl⟩ := hr
    exact ⟨g, rfl, by simpa using h, TrS.refl _ _, by simp [RAs], SameBox.refl _ _⟩
  | d :: ds, j, S, g, bs, fl, us, l, S', h, hr, hl => by
    simp only [abs1s] at hl
    split at hl
    · rename_i a S1 h1
      split at hl
      · rename_i l' S2 h2
        simp only [Option.some.injEq, Prod.mk.injEq] at hl
        obtain ⟨rfl, rfl⟩ := hl
        simp only [RL] at hr
        obtain ⟨u, us', b1, b2, rfl, rfl, r1, r2⟩ := hr
        rw [List.append_assoc] at h
        obtain ⟨g1, m1, k1, k2, k3, k4⟩ := abs1_ok h r1 h1
        rw [← m1] at r2
        obtain ⟨g2, m2, q1, q2, q3, q4⟩ := abs1s_ok k1 r2 h2
        refine ⟨g2, m2.trans m1, q1, k2.trans q2, ?_, k4.trans q4⟩
        simp only [RAs]
        exact ⟨u, us', rfl, RA_tr q2 _ _ k3, q3⟩
      · cases hl
    · cases hl
theorem absRes_ok {F : Fr} {S : Store} {g : G} {bs fl : List Nat} (h : RCF F S g (bs ++ fl)) {d : D} {u : Value} (hr : R g.m d bs u) {dst : Nat} {a : AV} {S' : Store} (hl : absRes S dst d = some (a, S')) :
    ∃ g', g'.m = g.m ∧ RCF F S' g' fl ∧ TrS S g S' g' ∧ RA S' g' a u ∧ SameBox S S' g g' := by
  cases d with
  | tp cells =>
    simp only [absRes] at hl
    split at hl
    · rename_i l S1 h1
      simp only [Option.some.injEq, Prod.mk.injEq] at hl
      obtain ⟨rfl, rfl⟩ := hl
      simp only [R] at hr
      obtain ⟨us, rfl, hr⟩ := hr
      obtain ⟨g', m1, k1, k2, k3, k4⟩ := abs1s_ok h hr h1
      exact ⟨g', m1, k1, k2, by simp only [RA]; exact ⟨us, rfl, k3⟩, k4⟩
    · cases hl
  | ag cells => exact abs1_ok h hr hl
  | _ => exact absC_ok (id := dst) h hr hl

theorem backG_ok {F : Fr} : ∀ {outs xs : List A} {lns : List (Nat × List AV)} {S : Store} {g : G} {bs fl : List Nat} {vs : List Value} {S' : Store}, shape outs = shape xs → RArgs g.m outs bs vs → LV S g xs lns vs → RCF F S g (bs ++ fl) → backG S outs lns = some S' →
    ∃ g', g'.m = g.m ∧ RCF F S' g' fl ∧ TrS S g S' g'
  | [], [], lns, S, g, bs, fl, vs, S', _, hr, hlv, h, hl => by
    simp only [RArgs] at hr
    obtain ⟨rfl, rfl⟩ := hr
    cases lns with
    | nil =>
      simp only [backG, Option.some.injEq] at hl
      subst hl
      exact ⟨g, rfl, by simpa using h, TrS.refl _ _⟩
    | cons q l => simp [backG] at hl
  | .v d :: outs, .v d' :: xs, lns, S, g, bs, fl, vs, S', hs, hr, hlv, h, hl => by
    simp only [RArgs] at hr
    obtain ⟨v, vs', b1, b2, rfl, rfl, r1, r2⟩ := hr
    simp only [shape, List.cons.injEq, true_and] at hs
    simp only [backG] at hl
    rw [List.append_assoc] at h
    exact backG_ok hs r2 hlv h.sub hl
  | .bx ds :: outs, .bx ds' :: xs, (id, cells) :: lns, S, g, bs, fl, vs, S', hs, hr, hlv, h, hl => by
    simp only [RArgs] at hr
    obtain ⟨v, vs', b1, b2, rfl, rfl, r1, r2⟩ := hr
    obtain ⟨b, t, us, bs', rfl, rfl, him, hb, hrl, hcv⟩ := r1
    simp only [shape, List.cons.injEq, true_and] at hs
    obtain ⟨l1, l2, l3, l4⟩ := hlv
    simp only [backG] at hl
    split at hl
    · rename_i l' S1 h1
      have hperm : ((b :: bs') ++ b2 ++ fl).Perm (bs' ++ (b :: (b2 ++ fl))) := by
        simp only [List.cons_append, List.append_assoc]
        exact List.perm_middle.symm
      obtain ⟨g1, m1, k1, k2, k3, k4⟩ := absCs_ok (h.perm hperm) hrl h1
      obtain ⟨s1, s2, s3⟩ := k4 id _ l1 rfl
      obtain ⟨q1, q2⟩ := k1.fillbox s1 (s3.trans l2) (by rw [m1]; exact him) (by rw [m1]; exact hb) k3 hcv
      have hlv' : LV ((id, .box l') :: S1) (g1.upd id (g1.loc id) [b] g1.m) xs lns vs' := LV.mono (fun q hq hh => by
        have hne := l3 q hq
        obtain ⟨t1, _, t3⟩ := k4 q.1 _ hh rfl
        exact ⟨by rw [sget_cons_ne hne]; exact t1, by simp [G.upd, hne, t3]⟩) l4
      obtain ⟨g2, m2, w1, w2⟩ := backG_ok hs (by rw [show (g1.upd id (g1.loc id) [b] g1.m).m = g.m from m1]; exact r2) hlv' q1 hl
      exact ⟨g2, m2.trans m1, w1, k2.trans (q2.trans w2)⟩
    · cases hl
  | .v d :: outs, .bx ds' :: xs, _, _, _, _, _, _, _, hs, _, _, _, _ => by simp [shape] at hs
  | .bx d :: outs, .v ds' :: xs, _, _, _, _, _, _, _, hs, _, _, _, _ => by simp [shape] at hs
  | [], .v _ :: _, _, _, _, _, _, _, _, hs, _, _, _, _ => by simp [shape] at hs
  | [], .bx _ :: _, _, _, _, _, _, _, _, hs, _, _, _, _ => by simp [shape] at hs
  | .v _ :: _, [], _, _, _, _, _, _, _, hs, _, _, _, _ => by simp [shape] at hs
  | .bx _ :: _, [], _, _, _, _, _, _, _, hs, _, _, _, _ => by simp [shape] at hs
  | .bx ds :: outs, .bx ds' :: xs, [], S, g, bs, fl, vs, S', hs, hr, hlv, h, hl => by simp [backG] at hl

mutual
theorem R_imf {m : Mem} : ∀ (d : D) (bs : List Nat) (v : Value), R m d bs v → ∀ b ∈ bs, m.im b = false
  | .val x, bs, v, h => by simp only [R] at h; rw [h.1]; simp
  | .sl true sz rows, bs, v, h => by
    simp only [R] at h
    rcases h.2 with h | ⟨b, c, arr, t, us, bs', rfl, h2, h3, h4, h5, h6, h7, h8, h9⟩
    · rw [h.2.1]; simp
    · intro x hx
      rcases List.mem_cons.1 hx with rfl | hx
      · exact h4
      · exact RLL_imf rows bs' us h9 x hx
  | .sl false sz rows, bs, v, h => by simp only [R] at h; rw [h.2.1]; simp
  | .ag cells, bs, v, h => by simp only [R] at h; obtain ⟨us, _, h2⟩ := h; exact RL_imf cells bs us h2
  | .tp cells, bs, v, h => by simp only [R] at h; obtain ⟨us, _, h2⟩ := h; exact RL_imf cells bs us h2
  | .rp cells, bs, v, h => by simp only [R] at h; rw [h.1]; simp
  | .cl f caps, bs, v, h => by simp only [R] at h; obtain ⟨us, _, h2⟩ := h; exact RL_imf caps bs us h2
theorem RL_imf {m : Mem} : ∀ (ds : List D) (bs : List Nat) (us : List Value), RL m ds bs us → ∀ b ∈ bs, m.im b = false
  | [], bs, us, h => by simp only [RL] at h; rw [h.1]; simp
  | d :: ds, bs, us, h => by
    simp only [RL] at h
    obtain ⟨u, us', b1, b2, _, rfl, h1, h2⟩ := h
    intro x hx
    rcases List.mem_append.1 hx with hx | hx
    · exact R_imf d b1 u h1 x hx
    · exact RL_imf ds b2 us' h2 x hx
theorem RLL_imf {m : Mem} : ∀ (rs : List (List D)) (bs : List Nat) (us : List Value), RLL m rs bs us → ∀ b ∈ bs, m.im b = false
  | [], bs, us, h => by simp only [RLL] at h; rw [h.1]; simp
  | d :: ds, bs, us, h => by
    simp only [RLL] at h
    obtain ⟨u, us', b1, b2, _, rfl, h1, h2⟩ := h
    intro x hx
    rcases List.mem_append.1 hx with hx | hx
    · exact RL_imf d b1 u h1 x hx
    · exact RLL_imf ds b2 us' h2 x hx
end
theorem RArg_imf {m : Mem} {a : A} {bs : List Nat} {v : Value} (h : RArg m a bs v) : ∀ b ∈ bs, m.im b = false := by
  cases a with
  | v d => rw [h.1]; simp
  | bx cells =>
    obtain ⟨b, t, us, bs', rfl, _, h1, _, h2, _⟩ := h
    intro x hx
    rcases List.mem_cons.1 hx with rfl | hx
    · exact h1
    · exact RL_imf _ _ _ h2 x hx
theorem RArgs_imf {m : Mem} : ∀ {as : List A} {bs : List Nat} {vs : List Value}, RArgs m as bs vs → ∀ b ∈ bs, m.im b = false
  | [], bs, vs, h => by simp only [RArgs] at h; rw [h.1]; simp
  | a :: as, bs, vs, h => by
    simp only [RArgs] at h
    obtain ⟨v, vs', b1, b2, _, rfl, h1, h2⟩ := h
    intro x hx
    rcases List.mem_append.1 hx with hx | hx
    · exact RArg_imf h1 x hx
    · exact RArgs_imf h2 x hx

theorem ALes.shape : ∀ {l l' : List A}, ALes l l' → shape l = shape l'
  | [], [], _ => rfl
  | .v _ :: l, .v _ :: l', h => by simp only [Vm.shape, ALes.shape h.2]
  | .bx _ :: l, .bx _ :: l', h => by simp only [Vm.shape, ALes.shape h.2]
theorem ALes.ok {m : Mem} : ∀ {l l' : List A} {bs : List Nat} {vs : List Value}, ALes l l' → RArgs m l bs vs → RArgs m l' bs vs
  | [], [], bs, vs, _, h => h
  | .v _ :: l, .v _ :: l', bs, vs, h, k => by
    simp only [RArgs] at k ⊢
    obtain ⟨v, vs', b1, b2, h1, h2, h3, h4⟩ := k
    exact ⟨v, vs', b1, b2, h1, h2, ⟨h3.1, h.1 _ _ _ h3.2⟩, ALes.ok h.2 h4⟩
  | .bx _ :: l, .bx _ :: l', bs, vs, h, k => by
    simp only [RArgs] at k ⊢
    obtain ⟨v, vs', b1, b2, h1, h2, ⟨b, t, us, bs', e1, e2, e3, e4, e5, e6⟩, h4⟩ := k
    exact ⟨v, vs', b1, b2, h1, h2, ⟨b, t, us, bs', e1, e2, e3, e4, h.1.ok e5, e6⟩, ALes.ok h.2 h4⟩

theorem pubOne_own {S : Store} {id i : Nat} (h : Own (pubOne S id) i) : Own S i ∧ i ≠ id := by
  unfold pubOne at h
  split at h
  · rename_i st sz rows hs
    obtain ⟨st', sz', rows', h⟩ := h
    by_cases hi : i = id
    · subst hi; rw [sget_cons_eq] at h; cases h
    · rw [sget_cons_ne hi] at h; exact ⟨⟨st', sz', rows', h⟩, hi⟩
  · rename_i hn
    refine ⟨h, ?_⟩
    rintro rfl
    obtain ⟨st', sz', rows', h⟩ := h
    exact hn _ _ _ h
theorem pubAll_own : ∀ {l : List Nat} {S : Store} {i : Nat}, Own (pubAll S l) i → Own S i ∧ i ∉ l
  | [], S, i, h => ⟨h, by simp⟩
  | id :: l, S, i, h => by
    obtain ⟨h1, h2⟩ := pubAll_own (l := l) h
    obtain ⟨h3, h4⟩ := pubOne_own h1
    exact ⟨h3, by simp [h2, h4]⟩

/-- A call that may be handed variables, and that may hand back what it made. -/
theorem call_gen {P : Program} {F : Fr} {E : Env} {S : Store} {g : G} {a : Act} {o : Oper} (h : Rel F E S g a.tmps) {f : Operand} {xs : Array Operand} {ts : Array TypeId} {cf : Opd} {ys : List Opd} {id : Nat} {caps : List AV} (ho : o.op = .call { callee := .value f, args := xs, argTypes := ts })
    (hcf : cOpd f = some cf) (hcx : cOpds xs.toList = some ys) (hfn : fnOf (ev E cf) = some (id, caps)) {p : Prop} {As As' outs : List A} {lents : List (Nat × List AV)} {S2 S3 S4 : Store}
    (hv : argsG (pubAll S (pubs (ys.map (ev E) ++ caps))) (pubAll S (pubs (ys.map (ev E) ++ caps))) (ys.map (ev E) ++ caps) = some (p, As, lents, S2)) (hp : p) (hle : ALes As As') {res : D} (hs : Sound P id As' res outs) (hsh : shape outs = shape As')
    {av : AV} {dst : Nat} (hres : absRes S2 dst res = some (av, S3)) (hback : backG S3 outs lents = some S4) : Goes P F o a S g av S4 := by
  intro K Q hK
  obtain ⟨us, hfv, hcaps⟩ := fnOf_ok hfn (opd_ok h hcf)
  have hargs := RAs_app (opds_ok h hcx) hcaps
  obtain ⟨g1, r1, t1, w1⟩ := h.rc.publishAll (pubs (ys.map (ev E) ++ caps))
  have hargs1 := RAs_tr t1 _ _ hargs
  obtain ⟨g2, bs, m2, r2, t2, ra2, _, lv2, _⟩ := argsG_ok r1 rfl (RCF.of r1) hargs1 hargs1 (fun i hi ho => (pubAll_own ho).2 hi) hv hp
  simp only [List.nil_append] at r2
  have ra2' : RArgs g2.m As' bs (xs.toList.map a.eval ++ us) := by rw [m2]; exact hle.ok ra2
  have hrun := call_exec (P := P) ho hfv hs.1 g.m.w
  unfold Oper.wp
  rw [hrun]
  have hw : g2.m.w = g.m.w := by rw [m2]; exact w1
  have himf := RArgs_imf ra2'
  have hcalls := hs.2 g2.m _ bs r2.rc.tab r2.rc.wf ra2' r2.nodup (fun b hb => (r2.range b hb).1) himf
  rw [hw] at hcalls
  refine hcalls.mono ?_
  rintro e w' ⟨v, im', b1, b2, rfl, haft, hr, hro⟩
  let g3 : G := ⟨g2.loc, g2.bl, ⟨w', im'⟩⟩
  have hm : MemLe g2.m g3.m := ⟨haft.size, fun b hb => by
    have hlt : b < g2.m.w.heap.size := by
      rcases Nat.lt_or_ge b g2.m.w.heap.size with h1 | h1
      · exact h1
      · rw [r2.rc.wf b h1] at hb; cases hb
    have hnb : b ∉ bs := fun hm => by rw [himf b hm] at hb; cases hb
    have := haft.keep b hlt hnb
    exact ⟨this.2.trans hb, this.1⟩⟩
  have htr : TrS S2 g2 S2 g3 := ⟨hm, fun j oj hj => TrO.same hj rfl⟩
  have r3 : RC F S2 g3 := r2.rc.update (fun _ => False) htr ⟨haft.wf, haft.size, fun b hb hB => ?_, haft.os, haft.tape, haft.output⟩ (fun j _ => ⟨rfl, rfl, rfl⟩) (fun j _ hn b hb => ?_) (fun _ _ hc => hc.elim) (fun _ _ hc => hc.elim)
  · have r3' : RCF F S2 g3 (b1 ++ b2) := ⟨r3, haft.nodup, fun b hb => ?_, fun i hi b hb hbf => ?_⟩
    · obtain ⟨g4, m4, r4, t4, ra4, sb4⟩ := absRes_ok r3' hr hres
      have lv4 : LV S3 g4 As lents (xs.toList.map a.eval ++ us) := LV.mono (fun q hq hh => by
        obtain ⟨k1, _, k3⟩ := sb4 q.1 _ hh rfl
        exact ⟨k1, k3⟩) lv2
      rw [← List.append_nil b2] at r4
      obtain ⟨g5, m5, r5, t5⟩ := backG_ok (hsh.trans hle.shape.symm) (by rw [m4]; exact hro) lv4 r4 hback
      have := hK v g5 r5.rc (RA_tr t5 _ _ ra4) (t1.trans (t2.trans (htr.trans (t4.trans t5))))
      rw [m5, m4] at this
      exact this
    · have hrg := haft.range b hb
      rcases hrg.2 with hx | hx
      · exact ⟨hrg.1, (r2.range b hx).2⟩
      · exact ⟨hrg.1, .inl (Nat.le_trans r2.rc.size hx)⟩
    · have hrg := haft.range b hbf
      rcases hrg.2 with hx | hx
      · exact r2.disj i hi b hb hx
      · have := (r2.rc.range i hi b hb).1
        omega
  · exact haft.keep b (Nat.lt_of_lt_of_le hb r2.rc.size) fun hx => by
      rcases (r2.range b hx).2 with hy | hy
      · omega
      · exact hB hy
  · have := haft.keep b (r2.rc.range j hn b hb).1 (fun hx => r2.disj j hn b hb hx)
    exact ⟨this.2, this.1⟩

end Go.Proofs.YtcaemkcglflmnaaDoor.Vm
