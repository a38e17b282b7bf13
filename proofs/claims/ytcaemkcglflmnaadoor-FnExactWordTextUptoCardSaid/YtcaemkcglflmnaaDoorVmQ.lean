/-
  The abstract machine, part Q: when an abstract state may stand for another. Conditions: none.
-/
import Derived.Test.YtcaemkcglflmnaaDoorVmP
namespace Go.Proofs.YtcaemkcglflmnaaDoor.Vm
open Go Go.RowKit
variable [Tbl]
set_option linter.unusedSimpArgs false
set_option linter.unusedVariables false
set_option linter.unusedSectionVars false

def cur (S : Store) (id st n : Nat) : Prop := match sget S id with | some (.slc s d) => s = st ∧ n = d.len | _ => False
def isBx (S : Store) (id : Nat) : Prop := match sget S id with | some (.box _) => True | some .hol => True | _ => False

mutual
def mA (S S' : Store) : AV → AV → Prop
  | .un, _ => True
  | .pu d', a => match a with | .pu d => d = d' | _ => False
  | .ag l', a => match a with | .ag l => mAs S S' l' l | _ => False
  | .tp l', a => match a with | .tp l => mAs S S' l' l | _ => False
  | .cl f' l', a => match a with | .cl f l => f = f' ∧ mAs S S' l' l | _ => False
  | .ob id' off', a => match a with | .ob id off => id = id' ∧ off = off' ∧ isBx S id ∧ isBx S' id | _ => False
  | .so id' st' n', a => match a with
    | .so id st n => id = id' ∧ n = n' ∧ cur S id st n ∧ cur S' id st' n
    | .pu d => d = .val (.slice none 0 0) ∧ sget S id' = none ∧ n' = 0 ∧ cur S' id' st' 0
    | _ => False
  | .ep _ _ _ _ _, _ => False
def mAs (S S' : Store) : List AV → List AV → Prop
  | [], l => match l with | [] => True | _ => False
  | a' :: l', l => match l with | a :: l => mA S S' a' a ∧ mAs S S' l' l | _ => False
end

def mO (S S' : Store) (i : Nat) : OB → Prop
  | .box cells' => match sget S i with | some (.box cells) => mAs S S' cells' cells | _ => False
  | .hol => match sget S i with | some .hol => True | _ => False
  | .slc _ d' => match sget S i with
    | some (.slc _ d) => d = d'
    | none => (match d' with | .sl true _ rows => rows = [] | _ => False)
    | _ => False
def mE (E : Env) (S S' : Store) : Env → Prop
  | [] => True
  | (t, a') :: l => mA S S' a' (eget E t) ∧ mE E S S' l
def mS (S S' : Store) : Store → Prop
  | [] => True
  | (i, o') :: l => mO S S' i o' ∧ mS S S' l
def mP (S' : Store) : List Nat → Prop
  | [] => True
  | i :: l => isBx S' i ∧ mP S' l

theorem mE_get {E : Env} {S S' : Store} : ∀ {E' : Env}, mE E S S' E' → ∀ t, mA S S' (eget E' t) (eget E t)
  | [], _, t => by simp only [eget, mA]
  | (k, a') :: l, h, t => by
    simp only [eget]
    split
    · rename_i hk; subst hk; exact h.1
    · exact mE_get h.2 t
theorem mS_get {S S' : Store} : ∀ {T : Store}, mS S S' T → ∀ i o, sget T i = some o → mO S S' i o
  | [], _, i, o, h => by simp [sget] at h
  | (k, o') :: l, h, i, o, ho => by
    simp only [sget] at ho
    split at ho
    · rename_i hk; subst hk; obtain rfl := Option.some.inj ho; exact h.1
    · exact mS_get h.2 i o ho
theorem mP_get {S' : Store} : ∀ {l : List Nat}, mP S' l → ∀ i ∈ l, isBx S' i
  | [], _, i, h => by simp at h
  | j :: l, h, i, hi => by
    rcases List.mem_cons.1 hi with rfl | hi
    · exact h.1
    · exact mP_get h.2 i hi

theorem isBx_ok {S : Store} {id : Nat} (h : isBx S id) : ∃ o, sget S id = some o ∧ o.isBox = true := by
  unfold isBx at h
  split at h
  · exact ⟨_, by assumption, rfl⟩
  · exact ⟨_, by assumption, rfl⟩
  · exact h.elim

/-- What stands for what: dropped objects are forgotten, new ones are empty slices. -/
def G.wk (g : G) (S : Store) : G := ⟨fun i => if (sget S i).isNone then nilS else g.loc i, fun i => if (sget S i).isNone then [] else g.bl i, g.m⟩

theorem cur_ok {S : Store} {id st n : Nat} (h : cur S id st n) : ∃ d, sget S id = some (.slc st d) ∧ n = d.len := by
  unfold cur at h
  split at h
  · rename_i s d hs
    obtain ⟨rfl, h⟩ := h
    exact ⟨d, hs, h⟩
  · exact h.elim

mutual
theorem mA_ok {S S' : Store} {g : G} : ∀ (a' a : AV) (v : Value), mA S S' a' a → RA S g a v → RA S' (g.wk S) a' v
  | .un, a, v, _, _ => by simp only [RA]
  | .pu d', a, v, h, k => by
    simp only [mA] at h
    split at h
    · subst h; simp only [RA] at k ⊢; exact k
    · exact h.elim
  | .ag l', a, v, h, k => by
    simp only [mA] at h
    split at h
    · simp only [RA] at k ⊢; obtain ⟨us, h1, h2⟩ := k; exact ⟨us, h1, mAs_ok l' _ us h h2⟩
    · exact h.elim
  | .tp l', a, v, h, k => by
    simp only [mA] at h
    split at h
    · simp only [RA] at k ⊢; obtain ⟨us, h1, h2⟩ := k; exact ⟨us, h1, mAs_ok l' _ us h h2⟩
    · exact h.elim
  | .cl f' l', a, v, h, k => by
    simp only [mA] at h
    split at h
    · obtain ⟨rfl, h⟩ := h
      simp only [RA] at k ⊢; obtain ⟨us, h1, h2⟩ := k; exact ⟨us, h1, mAs_ok l' _ us h h2⟩
    · exact h.elim
  | .ob id' off', a, v, h, k => by
    simp only [mA] at h
    split at h
    · obtain ⟨rfl, rfl, h1, h2⟩ := h
      simp only [RA] at k ⊢
      obtain ⟨⟨o, k0, _⟩, b, k1, k2⟩ := k
      exact ⟨isBx_ok h2, b, by simp [G.wk, k0, k1], k2⟩
    · exact h.elim
  | .so id' st' n', a, v, h, k => by
    simp only [mA] at h
    split at h
    · rename_i id st n
      obtain ⟨rfl, rfl, h1, h2⟩ := h
      obtain ⟨d, e1, e2⟩ := cur_ok h1
      obtain ⟨d', e3, e4⟩ := cur_ok h2
      simp only [RA] at k ⊢
      obtain ⟨st2, d2, k1, k2, k3⟩ := k
      rw [e1] at k1
      obtain ⟨rfl, rfl⟩ : st = st2 ∧ d = d2 := by simpa using k1
      exact ⟨st', d', e3, Nat.le_refl _, fun _ => ⟨by omega, fun _ => by simp [G.wk, e1]; exact (k3 rfl).2 e2⟩⟩
    · obtain ⟨rfl, h1, rfl, h2⟩ := h
      obtain ⟨d', e3, e4⟩ := cur_ok h2
      simp only [RA, R] at k ⊢
      exact ⟨st', d', e3, Nat.le_refl _, fun _ => ⟨by omega, fun _ => by simp [G.wk, h1, nilS]; exact k.2⟩⟩
    · exact h.elim
  | .ep _ _ _ _ _, a, v, h, k => by simp only [mA] at h
theorem mAs_ok {S S' : Store} {g : G} : ∀ (l' l : List AV) (us : List Value), mAs S S' l' l → RAs S g l us → RAs S' (g.wk S) l' us
  | [], l, us, h, k => by
    simp only [mAs] at h
    split at h
    · simpa only [RAs] using k
    · exact h.elim
  | a' :: l', l, us, h, k => by
    simp only [mAs] at h
    split at h
    · simp only [RAs] at k ⊢
      obtain ⟨u, us', h1, h2, h3⟩ := k
      exact ⟨u, us', h1, mA_ok a' _ u h.1 h2, mAs_ok l' _ us' h.2 h3⟩
    · exact h.elim
end

theorem weak_ok {pn : List Nat} {E E' : Env} {S S' : Store} (hE : mE E S S' E') (hS : mS S S' S') (hP : mP S' pn) : Weak pn (E, S) (E', S') := by
  intro F pv g tm hpv hr
  have hO := mS_get hS
  refine ⟨g.wk S, rfl, ⟨fun t => mA_ok _ _ _ (mE_get hE t) (hr.rel.env t), ?_⟩, fun q hq => ?_⟩
  · have hrc := hr.rel.rc
    have some_of : ∀ i b, b ∈ (g.wk S).bl i → sget S i ≠ none ∧ b ∈ g.bl i := by
      intro i b hb
      simp only [G.wk] at hb
      split at hb
      · simp at hb
      · rename_i hn; exact ⟨by simpa using hn, hb⟩
    refine { obj := fun i o ho => ?_, nodup := fun i hn => ?_, disj := fun i j hij hi hj b hb hb' => ?_, range := fun i hn b hb => ?_, wf := hrc.wf, size := hrc.size, keep := hrc.keep, os := hrc.os, tape := hrc.tape, output := hrc.output }
    · have hm := hO i o ho
      cases o with
      | box cells' =>
        simp only [mO] at hm
        split at hm
        · rename_i cells hc
          obtain ⟨b, t, us, h1, h2, h3, h4, h5, h6⟩ := hrc.obj i _ hc
          exact ⟨b, t, us, by simp [G.wk, hc, h1], by simp [G.wk, hc, h2], h3, h4, mAs_ok _ _ _ hm h5, h6⟩
        · exact hm.elim
      | hol =>
        simp only [mO] at hm
        split at hm
        · rename_i hc
          obtain ⟨⟨b, h1⟩, h2⟩ := hrc.obj i _ hc
          exact ⟨⟨b, by simp [G.wk, hc, h1]⟩, by simp [G.wk, hc, h2]⟩
        · exact hm.elim
      | slc st' d' =>
        simp only [mO] at hm
        split at hm
        · rename_i st d hc
          subst hm
          obtain ⟨h1, h2⟩ := hrc.obj i _ hc
          exact ⟨h1, by simpa [G.wk, hc] using h2⟩
        · rename_i hc
          split at hm
          · rename_i sz rows
            subst hm
            exact ⟨⟨true, sz, [], rfl⟩, by simp [G.wk, hc, R]⟩
          · exact hm.elim
        · exact hm.elim
    · simp only [G.wk]
      split
      · simp
      · rename_i h; exact hrc.nodup i (by simpa using h)
    · obtain ⟨h1, h2⟩ := some_of i b hb
      obtain ⟨h3, h4⟩ := some_of j b hb'
      exact hrc.disj i j hij h1 h3 b h2 h4
    · obtain ⟨h1, h2⟩ := some_of i b hb
      exact hrc.range i h1 b h2
  · obtain ⟨h1, o, h2, h3⟩ := hr.pin q hq
    have hi : q.1 ∈ pn := by rw [← hpv]; exact List.mem_map.2 ⟨q, hq, rfl⟩
    exact ⟨by simp [G.wk, h2, h1], isBx_ok (mP_get hP _ hi)⟩

theorem Weak.trans {pn : List Nat} {s t u : St} (h : Weak pn s t) (k : Weak pn t u) : Weak pn s u := by
  intro F pv g tm hpv hr
  obtain ⟨g1, e1, r1⟩ := h F pv g tm hpv hr
  obtain ⟨g2, e2, r2⟩ := k F pv g1 tm hpv r1
  exact ⟨g2, e2.trans e1, r2⟩
theorem Weak.pub {pn : List Nat} (E : Env) (S : Store) (id : Nat) : Weak pn (E, S) (E, pubOne S id) := by
  intro F pv g tm hpv hr
  obtain ⟨g', h1, h2, h3⟩ := hr.rel.rc.publish id
  exact ⟨g', h3, ⟨fun t => RA_tr h2 _ _ (hr.rel.env t), h1⟩, hr.pin.tr h2⟩
theorem Weak.refl {pn : List Nat} (s : St) : Weak pn s s := fun F pv g tm hpv hr => ⟨g, rfl, hr⟩
/-- A slot is told in other words. -/
theorem Weak.slot {pn : List Nat} {E : Env} {S : Store} (t : Nat) {a' : AV} (h : ∀ g v, RA S g (eget E t) v → RA S g a' v) : Weak pn (E, S) ((t, a') :: E, S) := by
  intro F pv g tm hpv hr
  refine ⟨g, rfl, ⟨fun n => ?_, hr.rel.rc⟩, hr.pin⟩
  simp only [eget]
  split
  · rename_i hk; subst hk; exact h _ _ (hr.rel.env t)
  · exact hr.rel.env n

end Go.Proofs.YtcaemkcglflmnaaDoor.Vm
