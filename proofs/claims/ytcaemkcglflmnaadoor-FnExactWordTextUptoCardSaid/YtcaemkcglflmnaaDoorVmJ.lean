/-
  The abstract machine, part J: contracts of functions, and calls. Conditions: none.
-/
import Derived.Test.YtcaemkcglflmnaaDoorVmI
namespace Go.Proofs.YtcaemkcglflmnaaDoor.Vm
open Go Go.RowKit
variable [Tbl]
set_option linter.unusedSimpArgs false
set_option linter.unusedVariables false
set_option linter.unusedSectionVars false

/-- Arguments: a value; the address of a variable that is lent for the call. -/
inductive A where
  | v (d : D)
  | bx (cells : List D)
  deriving Inhabited

def RArg (m : Mem) : A → List Nat → Value → Prop
  | .v d, bs, v => bs = [] ∧ R m d [] v
  | .bx cells, bs, v => ∃ (b t : Nat) (us : List Value) (bs' : List Nat), bs = b :: bs' ∧ v = ptr b 0 ∧ m.im b = false ∧ m.w.heap[b]? = some (.cells us.toArray t (0, 0)) ∧ RL m cells bs' us ∧ ∀ u ∈ us, cellV u = true
def RArgs (m : Mem) : List A → List Nat → List Value → Prop
  | [], bs, vs => bs = [] ∧ vs = []
  | a :: as, bs, vs => ∃ v vs' b1 b2, vs = v :: vs' ∧ bs = b1 ++ b2 ∧ RArg m a b1 v ∧ RArgs m as b2 vs'

/-- What a call leaves. -/
structure After (m : Mem) (bs : List Nat) (m' : Mem) (new : List Nat) : Prop where
  wf : ∀ b, m'.w.heap.size ≤ b → m'.im b = false
  size : m.w.heap.size ≤ m'.w.heap.size
  nodup : new.Nodup
  range : ∀ b ∈ new, b < m'.w.heap.size ∧ (b ∈ bs ∨ m.w.heap.size ≤ b)
  keep : ∀ b, b < m.w.heap.size → b ∉ bs → m'.w.heap[b]? = m.w.heap[b]? ∧ m'.im b = m.im b
  os : m'.w.os = m.w.os
  tape : m'.w.tape = m.w.tape
  output : m'.w.output = m.w.output

def HasBody (P : Program) (f : Nat) : Prop := ∃ fn, P.funcs[f]? = some fn ∧ fn.body.isSome = true ∧ (fn.name == "runtime.NumGoroutine") = false

/-- The contract of a function at arguments that are told: it returns what is told, and leaves of its arguments what is told. -/
structure Sound (P : Program) (f : Nat) (args : List A) (res : D) (outs : List A) : Prop where
  body : HasBody P f
  run : ∀ (m : Mem) (vs : List Value) (bs : List Nat), Tab m → (∀ b, m.w.heap.size ≤ b → m.im b = false) → RArgs m args bs vs → bs.Nodup → (∀ b ∈ bs, b < m.w.heap.size) → (∀ b ∈ bs, m.im b = false) →
    Calls P f vs.toArray m.w fun e w' => ∃ v im' b1 b2, e = .returned v ∧ After m bs ⟨w', im'⟩ (b1 ++ b2) ∧ R ⟨w', im'⟩ res b1 v ∧ RArgs ⟨w', im'⟩ outs b2 vs

theorem TrS.trans {S S' S'' : Store} {g g' g'' : G} (h : TrS S g S' g') (k : TrS S' g' S'' g'') : TrS S g S'' g'' := ⟨h.1.trans k.1, fun id o ho => by
  have h1 := h.2 id o ho
  cases o with
  | box c =>
    obtain ⟨⟨o', h2, h0⟩, h3⟩ := h1
    have h4 := k.2 id _ h2
    cases o' with
    | slc st d => cases h0
    | _ => exact ⟨h4.1, h4.2.trans h3⟩
  | hol =>
    obtain ⟨⟨o', h2, h0⟩, h3⟩ := h1
    have h4 := k.2 id _ h2
    cases o' with
    | slc st d => cases h0
    | _ => exact ⟨h4.1, h4.2.trans h3⟩
  | slc st d =>
    obtain ⟨st', d', h2, h3, h4⟩ := h1
    obtain ⟨st'', d'', h5, h6, h7⟩ := k.2 id _ h2
    refine ⟨st'', d'', h5, Nat.le_trans h3 h6, fun he => ?_⟩
    obtain ⟨a1, a2, a3⟩ := h4 (by omega)
    obtain ⟨c1, c2, c3⟩ := h7 (by omega)
    exact ⟨Nat.le_trans a1 c1, c2.trans a2, fun hl => (c3 (by omega)).trans (a3 (by omega))⟩⟩

/-- A state with blocks that float: owned, but by no object. -/
structure RCF (F : Fr) (S : Store) (g : G) (fl : List Nat) : Prop where
  rc : RC F S g
  nodup : fl.Nodup
  range : ∀ b ∈ fl, b < g.m.w.heap.size ∧ (F.w0.heap.size ≤ b ∨ b ∈ F.B0)
  disj : ∀ i, sget S i ≠ none → ∀ b ∈ g.bl i, b ∉ fl

def KeepO (g g' : G) (S' : Store) (C : Nat → Prop) : Prop := True

theorem RCF.of {F : Fr} {S : Store} {g : G} (h : RC F S g) : RCF F S g [] := ⟨h, by simp, by simp, by simp⟩

theorem MStep.same {F : Fr} {S : Store} {g : G} (h : RC F S g) (loc : Nat → Value) (bl : Nat → List Nat) : MStep F g ⟨loc, bl, g.m⟩ := ⟨h.wf, Nat.le_refl _, fun _ _ _ => ⟨rfl, rfl⟩, rfl, rfl, rfl⟩

def newSt (S : Store) (id : Nat) : Option Nat := match sget S id with | none => some 0 | some (.slc st _) => some (st + 1) | _ => none

/-- Blocks that float become an object. -/
theorem RCF.absorb {F : Fr} {S : Store} {g : G} {bs fl : List Nat} (h : RCF F S g (bs ++ fl)) {id st : Nat} (hid : newSt S id = some st) {sz : Nat} {rows : List (List D)} {own : Bool} {v : Value} (hr : R g.m (.sl own sz rows) bs v) :
    RCF F ((id, .slc st (.sl own sz rows)) :: S) (g.upd id v bs g.m) fl ∧ TrS S g ((id, .slc st (.sl own sz rows)) :: S) (g.upd id v bs g.m) ∧ RA ((id, .slc st (.sl own sz rows)) :: S) (g.upd id v bs g.m) (.so id st rows.length) v := by
  have hnd := List.nodup_append.1 h.nodup
  have htr : TrS S g ((id, .slc st (.sl own sz rows)) :: S) (g.upd id v bs g.m) := ⟨MemLe.refl _, fun j oj hj => by
    by_cases hji : j = id
    · subst hji
      unfold newSt at hid
      rw [hj] at hid
      cases oj with
      | box c => cases hid
      | hol => cases hid
      | slc st0 d0 =>
        obtain rfl := Option.some.inj hid
        exact ⟨st0 + 1, _, sget_cons_eq, by omega, fun e => by omega⟩
    · exact TrO.same (by rw [sget_cons_ne hji]; exact hj) (by simp [G.upd, hji])⟩
  refine ⟨⟨h.rc.update (· = id) htr (by have := MStep.same h.rc (g.upd id v bs g.m).loc (g.upd id v bs g.m).bl; exact this) (fun j hj => ⟨sget_cons_ne hj, by simp [G.upd, hj], by simp [G.upd, hj]⟩) (fun j _ _ b _ => ⟨rfl, rfl⟩) ?_ ?_, hnd.2.1, fun b hb => h.range b (by simp [hb]), ?_⟩, htr, ?_⟩
  · rintro j oj rfl hj
    rw [sget_cons_eq] at hj
    obtain rfl := Option.some.inj hj
    refine ⟨⟨⟨own, sz, rows, rfl⟩, by simpa [G.upd] using hr⟩, by simpa [G.upd] using hnd.1, fun b hb => ?_⟩
    have hb' : b ∈ bs := by simpa [G.upd] using hb
    exact h.range b (by simp [hb'])
  · rintro i j rfl hij _ hj b hb hb'
    have hji : ¬ j = i := fun e => hij e.symm
    have hb1 : b ∈ bs := by simpa [G.upd] using hb
    have hb2 : b ∈ g.bl j := by simpa [G.upd, hji] using hb'
    rw [sget_cons_ne hji] at hj
    exact h.disj j hj b hb2 (by simp [hb1])
  · intro i hi b hb hbf
    by_cases hii : i = id
    · subst hii
      have hb1 : b ∈ bs := by simpa [G.upd] using hb
      exact hnd.2.2 b hb1 b hbf rfl
    · rw [sget_cons_ne hii] at hi
      have hb2 : b ∈ g.bl i := by simpa [G.upd, hii] using hb
      exact h.disj i hi b hb2 (by simp [hbf])
  · simp only [RA, sget_cons_eq]
    exact ⟨st, _, rfl, Nat.le_refl _, fun _ => ⟨by simp [D.len], fun _ => by simp [G.upd]⟩⟩

/-- An object's blocks are let float. -/
theorem RCF.take {F : Fr} {S : Store} {g : G} {fl : List Nat} (h : RCF F S g fl) {id st : Nat} {d : D} (hs : sget S id = some (.slc st d)) :
    RCF F ((id, .slc (st + 1) (.sl true 0 [])) :: S) (g.upd id nilS [] g.m) (fl ++ g.bl id) ∧ TrS S g ((id, .slc (st + 1) (.sl true 0 [])) :: S) (g.upd id nilS [] g.m) := by
  have hidn : sget S id ≠ none := by rw [hs]; simp
  have htr : TrS S g ((id, .slc (st + 1) (.sl true 0 [])) :: S) (g.upd id nilS [] g.m) := ⟨MemLe.refl _, fun j oj hj => by
    by_cases hji : j = id
    · subst hji
      rw [hs] at hj
      obtain rfl := Option.some.inj hj
      exact ⟨st + 1, _, sget_cons_eq, by omega, fun e => by omega⟩
    · exact TrO.same (by rw [sget_cons_ne hji]; exact hj) (by simp [G.upd, hji])⟩
  refine ⟨⟨h.rc.update (· = id) htr (by have := MStep.same h.rc (g.upd id nilS [] g.m).loc (g.upd id nilS [] g.m).bl; exact this) (fun j hj => ⟨sget_cons_ne hj, by simp [G.upd, hj], by simp [G.upd, hj]⟩) (fun j _ _ b _ => ⟨rfl, rfl⟩) ?_ ?_, ?_, ?_, ?_⟩, htr⟩
  · rintro j oj rfl hj
    rw [sget_cons_eq] at hj
    obtain rfl := Option.some.inj hj
    exact ⟨⟨⟨true, 0, [], rfl⟩, by simp [G.upd, R]⟩, by simp [G.upd], by simp [G.upd]⟩
  · rintro i j rfl hij _ hj b hb
    simp [G.upd] at hb
  · exact List.nodup_append.2 ⟨h.nodup, h.rc.nodup id hidn, fun x hx y hy e => by subst e; exact h.disj id hidn x hy hx⟩
  · intro b hb
    rcases List.mem_append.1 hb with hb | hb
    · exact h.range b hb
    · exact h.rc.range id hidn b hb
  · intro i hi b hb hbf
    by_cases hii : i = id
    · subst hii; simp [G.upd] at hb
    · rw [sget_cons_ne hii] at hi
      have hb2 : b ∈ g.bl i := by simpa [G.upd, hii] using hb
      rcases List.mem_append.1 hbf with hbf | hbf
      · exact h.disj i hi b hb2 hbf
      · exact h.rc.disj i id hii hi hidn b hb2 hbf

theorem RCF.perm {F : Fr} {S : Store} {g : G} {fl fl' : List Nat} (h : RCF F S g fl) (hp : fl.Perm fl') : RCF F S g fl' := ⟨h.rc, hp.nodup_iff.1 h.nodup, fun b hb => h.range b (hp.mem_iff.2 hb), fun i hi b hb hb' => h.disj i hi b hb (hp.mem_iff.2 hb')⟩
theorem RCF.sub {F : Fr} {S : Store} {g : G} {fl fl' : List Nat} (h : RCF F S g (fl ++ fl')) : RCF F S g fl' := ⟨h.rc, (List.nodup_append.1 h.nodup).2.1, fun b hb => h.range b (by simp [hb]), fun i hi b hb hb' => h.disj i hi b hb (by simp [hb'])⟩

/-- A variable is lent: its block floats. -/
theorem RCF.hollow {F : Fr} {S : Store} {g : G} {fl : List Nat} (h : RCF F S g fl) {id : Nat} {cells : List AV} (hs : sget S id = some (.box cells)) :
    RCF F ((id, .hol) :: S) (g.upd id (g.loc id) [] g.m) (fl ++ g.bl id) ∧ TrS S g ((id, .hol) :: S) (g.upd id (g.loc id) [] g.m) := by
  have hidn : sget S id ≠ none := by rw [hs]; simp
  have htr : TrS S g ((id, .hol) :: S) (g.upd id (g.loc id) [] g.m) := ⟨MemLe.refl _, fun j oj hj => by
    by_cases hji : j = id
    · subst hji
      rw [hs] at hj
      obtain rfl := Option.some.inj hj
      exact ⟨⟨.hol, sget_cons_eq, rfl⟩, by simp [G.upd]⟩
    · exact TrO.same (by rw [sget_cons_ne hji]; exact hj) (by simp [G.upd, hji])⟩
  refine ⟨⟨h.rc.update (· = id) htr (by have := MStep.same h.rc (g.upd id (g.loc id) [] g.m).loc (g.upd id (g.loc id) [] g.m).bl; exact this) (fun j hj => ⟨sget_cons_ne hj, by simp [G.upd, hj], by simp [G.upd, hj]⟩) (fun j _ _ b _ => ⟨rfl, rfl⟩) ?_ ?_, ?_, ?_, ?_⟩, htr⟩
  · rintro j oj rfl hj
    rw [sget_cons_eq] at hj
    obtain rfl := Option.some.inj hj
    obtain ⟨b, t, us, k1, _⟩ := h.rc.obj _ _ hs
    exact ⟨⟨⟨b, by simpa [G.upd] using k1⟩, by simp [G.upd]⟩, by simp [G.upd], by simp [G.upd]⟩
  · rintro i j rfl hij _ hj b hb
    simp [G.upd] at hb
  · exact List.nodup_append.2 ⟨h.nodup, h.rc.nodup id hidn, fun x hx y hy e => by subst e; exact h.disj id hidn x hy hx⟩
  · intro b hb
    rcases List.mem_append.1 hb with hb | hb
    · exact h.range b hb
    · exact h.rc.range id hidn b hb
  · intro i hi b hb hbf
    by_cases hii : i = id
    · subst hii; simp [G.upd] at hb
    · rw [sget_cons_ne hii] at hi
      have hb2 : b ∈ g.bl i := by simpa [G.upd, hii] using hb
      rcases List.mem_append.1 hbf with hbf | hbf
      · exact h.disj i hi b hb2 hbf
      · exact h.rc.disj i id hii hi hidn b hb2 hbf

/-- A lent variable comes back. -/
theorem RCF.fillbox {F : Fr} {S : Store} {g : G} {fl : List Nat} {b t : Nat} {us : List Value} (h : RCF F S g (b :: fl)) {id : Nat} {l : List AV} (hs : sget S id = some .hol) (hl : g.loc id = ptr b 0) (him : g.m.im b = false) (hb : g.m.w.heap[b]? = some (.cells us.toArray t (0, 0)))
    (hr : RAs S g l us) (hcv : ∀ u ∈ us, cellV u = true) : RCF F ((id, .box l) :: S) (g.upd id (g.loc id) [b] g.m) fl ∧ TrS S g ((id, .box l) :: S) (g.upd id (g.loc id) [b] g.m) := by
  have hidn : sget S id ≠ none := by rw [hs]; simp
  have hnd := List.nodup_cons.1 h.nodup
  have htr : TrS S g ((id, .box l) :: S) (g.upd id (g.loc id) [b] g.m) := ⟨MemLe.refl _, fun j oj hj => by
    by_cases hji : j = id
    · subst hji
      rw [hs] at hj
      obtain rfl := Option.some.inj hj
      exact ⟨⟨.box l, sget_cons_eq, rfl⟩, by simp [G.upd]⟩
    · exact TrO.same (by rw [sget_cons_ne hji]; exact hj) (by simp [G.upd, hji])⟩
  refine ⟨⟨h.rc.update (· = id) htr (by have := MStep.same h.rc (g.upd id (g.loc id) [b] g.m).loc (g.upd id (g.loc id) [b] g.m).bl; exact this) (fun j hj => ⟨sget_cons_ne hj, by simp [G.upd, hj], by simp [G.upd, hj]⟩) (fun j _ _ b _ => ⟨rfl, rfl⟩) ?_ ?_, hnd.2, fun x hx => h.range x (by simp [hx]), ?_⟩, htr⟩
  · rintro j oj rfl hj
    rw [sget_cons_eq] at hj
    obtain rfl := Option.some.inj hj
    refine ⟨⟨b, t, us, by simpa [G.upd] using hl, by simp [G.upd], him, hb, RAs_tr htr _ _ hr, hcv⟩, by simp [G.upd], fun x hx => ?_⟩
    have : x = b := by simpa [G.upd] using hx
    subst this
    exact h.range x (by simp)
  · rintro i j rfl hij _ hj x hx hx'
    have hji : ¬ j = i := fun e => hij e.symm
    have : x = b := by simpa [G.upd] using hx
    subst this
    have hb2 : x ∈ g.bl j := by simpa [G.upd, hji] using hx'
    rw [sget_cons_ne hji] at hj
    exact h.disj j hj x hb2 (by simp)
  · intro i hi x hx hxf
    by_cases hii : i = id
    · subst hii
      have : x = b := by simpa [G.upd] using hx
      subst this
      exact hnd.1 hxf
    · rw [sget_cons_ne hii] at hi
      have hb2 : x ∈ g.bl i := by simpa [G.upd, hii] using hx
      exact h.disj i hi x hb2 (by simp [hxf])

def pubOne (S : Store) (id : Nat) : Store := match sget S id with
  | some (.slc st (.sl true sz rows)) => (id, .slc st (.sl false sz (D.pl.plLL rows))) :: S
  | _ => S

/-- An object is never written again. -/
theorem RC.publish {F : Fr} {S : Store} {g : G} (h : RC F S g) (id : Nat) : ∃ g', RC F (pubOne S id) g' ∧ TrS S g (pubOne S id) g' ∧ g'.m.w = g.m.w := by
  unfold pubOne
  split
  · rename_i st sz rows hs
    have hidn : sget S id ≠ none := by rw [hs]; simp
    obtain ⟨_, hro⟩ := h.obj id _ hs
    have hrg := h.range id hidn
    let m' : Mem := g.m.pub (g.bl id)
    have him : ∀ b, b ∉ g.bl id → m'.im b = g.m.im b := fun b hb => by simp [m', Mem.pub, hb]
    have hle : MemLe g.m m' := ⟨Nat.le_refl _, fun b hb => ⟨by simp [m', Mem.pub, hb], rfl⟩⟩
    have htr : TrS S g ((id, .slc st (.sl false sz (D.pl.plLL rows))) :: S) ⟨g.loc, fun i => if i = id then [] else g.bl i, m'⟩ := ⟨hle, fun j oj hj => by
      by_cases hji : j = id
      · subst hji
        rw [hs] at hj
        obtain rfl := Option.some.inj hj
        exact ⟨st, _, sget_cons_eq, Nat.le_refl _, fun _ => ⟨by simp [D.len, plLL_length], rfl, fun _ => rfl⟩⟩
      · exact TrO.same (by rw [sget_cons_ne hji]; exact hj) rfl⟩
    refine ⟨_, h.update (· = id) htr ⟨fun b hb => ?_, Nat.le_refl _, fun b hb hB => ⟨rfl, him b fun hm => ?_⟩, rfl, rfl, rfl⟩ (fun j hj => ⟨sget_cons_ne hj, rfl, by simp [hj]⟩) ?_ ?_ ?_, htr, rfl⟩
    · rw [him b (fun hm => by have := (hrg b hm).1; have hb' : g.m.w.heap.size ≤ b := hb; omega)]
      exact h.wf b hb
    · rcases (hrg b hm).2 with h' | h'
      · omega
      · exact hB h'
    · intro j hj hn' b hb
      exact ⟨him b (fun hm => h.disj j id hj hn' hidn b hb hm), rfl⟩
    · rintro j oj rfl hj
      rw [sget_cons_eq] at hj
      obtain rfl := Option.some.inj hj
      refine ⟨⟨⟨false, sz, _, rfl⟩, ?_⟩, by simp, by simp⟩
      have := R_pl hle (.sl true sz rows) (g.bl j) (g.loc j) (fun b hb => ⟨by simp [m', Mem.pub, hb], rfl⟩) hro
      simpa [D.pl] using this
    · rintro i j rfl hij _ hj b hb
      simp at hb
  · exact ⟨g, h, TrS.refl _ _, rfl⟩

def pubAll (S : Store) : List Nat → Store
  | [] => S
  | id :: l => pubAll (pubOne S id) l
theorem RC.publishAll {F : Fr} : ∀ (l : List Nat) {S : Store} {g : G}, RC F S g → ∃ g', RC F (pubAll S l) g' ∧ TrS S g (pubAll S l) g' ∧ g'.m.w = g.m.w
  | [], S, g, h => ⟨g, h, TrS.refl _ _, rfl⟩
  | id :: l, S, g, h => by
    obtain ⟨g1, h1, h2, h3⟩ := h.publish id
    obtain ⟨g2, k1, k2, k3⟩ := RC.publishAll l h1
    exact ⟨g2, k1, h2.trans k2, k3.trans h3⟩

/-! ### arguments by value -/
def pubC : AV → List Nat
  | .so id _ _ => [id]
  | _ => []
def pubCs : List AV → List Nat
  | [] => []
  | a :: l => pubC a ++ pubCs l
def pubs1 : AV → List Nat
  | .ag l => pubCs l
  | .cl _ l => pubCs l
  | a => pubC a
def pubs : List AV → List Nat
  | [] => []
  | a :: l => pubs1 a ++ pubs l

def viewC (S : Store) : AV → Option (Prop × D)
  | .pu d => some (True, d)
  | .so id st n => match sget S id with
    | some (.slc st' (.sl false sz rows)) => some (st = st' ∧ n = rows.length, .sl false sz rows)
    | some (.slc st' (.sl true sz rows)) => some (st = st' ∧ n = rows.length, .sl false sz (D.pl.plLL rows))
    | _ => none
  | _ => none
def viewCs (S : Store) : List AV → Option (Prop × List D)
  | [] => some (True, [])
  | a :: l => match viewC S a, viewCs S l with | some (p, d), some (q, ds) => some (p ∧ q, d :: ds) | _, _ => none
def view (S : Store) : AV → Option (Prop × D)
  | .ag l => match viewCs S l with | some (p, ds) => some (p, .ag ds) | none => none
  | .cl f l => match viewCs S l with | some (p, ds) => some (p, .cl f ds) | none => none
  | .pu d => viewC S (.pu d)
  | .so id st n => viewC S (.so id st n)
  | _ => none
def views (S : Store) : List AV → Option (Prop × List D)
  | [] => some (True, [])
  | a :: l => match view S a, views S l with | some (p, d), some (q, ds) => some (p ∧ q, d :: ds) | _, _ => none

def Own (S : Store) (i : Nat) : Prop := ∃ st sz rows, sget S i = some (.slc st (.sl true sz rows))

/-- Memory in which the objects of some ids are published, for the time of a call. -/
def lentIm (g : G) (ids : List Nat) (b : Nat) : Bool := g.m.im b || ids.any fun id => (g.bl id).contains b

theorem viewC_ok {F : Fr} {S : Store} {g : G} (h : RC F S g) (ids : List Nat) {a : AV} {v : Value} {p : Prop} {d : D} (hv : viewC S a = some (p, d)) (hp : p) (hids : ∀ i ∈ pubC a, Own S i → i ∈ ids) (hr : RA S g a v) : R ⟨g.m.w, lentIm g ids⟩ d [] v := by
  have hle : MemLe g.m ⟨g.m.w, lentIm g ids⟩ := ⟨Nat.le_refl _, fun b hb => ⟨by simp [lentIm, hb], rfl⟩⟩
  cases a with
  | pu d' =>
    simp only [viewC, Option.some.injEq, Prod.mk.injEq] at hv
    obtain ⟨_, rfl⟩ := hv
    simp only [RA] at hr
    exact R_mono hle _ _ _ (KeepB.nil _ _) hr
  | so id st n =>
    simp only [viewC] at hv
    simp only [RA] at hr
    obtain ⟨st', d', h1, h2, h3⟩ := hr
    rw [h1] at hv
    obtain ⟨_, hro⟩ := h.obj id _ h1
    split at hv
    · rename_i st0 sz rows he
      simp only [Option.some.injEq, OB.slc.injEq] at he
      obtain ⟨rfl, rfl⟩ := he
      simp only [Option.some.injEq, Prod.mk.injEq] at hv
      obtain ⟨rfl, rfl⟩ := hv
      obtain ⟨rfl, rfl⟩ := hp
      rw [(h3 rfl).2 rfl]
      have hbl : g.bl id = [] := by simp only [R] at hro; exact hro.2.1
      rw [hbl] at hro
      exact R_mono hle _ _ _ (KeepB.nil _ _) hro
    · rename_i st0 sz rows he
      simp only [Option.some.injEq, OB.slc.injEq] at he
      obtain ⟨rfl, rfl⟩ := he
      simp only [Option.some.injEq, Prod.mk.injEq] at hv
      obtain ⟨rfl, rfl⟩ := hv
      obtain ⟨rfl, rfl⟩ := hp
      rw [(h3 rfl).2 rfl]
      have := R_pl hle (.sl true sz rows) (g.bl id) (g.loc id) (fun b hb => ⟨by
        have hid : id ∈ ids := hids id (by simp [pubC]) ⟨_, _, _, h1⟩
        simp only [lentIm, Bool.or_eq_true, List.any_eq_true, List.contains_iff_mem]
        exact .inr ⟨id, hid, hb⟩, rfl⟩) hro
      simpa [D.pl] using this
    · cases hv
  | _ => simp [viewC] at hv
theorem viewCs_ok {F : Fr} {S : Store} {g : G} (h : RC F S g) (ids : List Nat) : ∀ {l : List AV} {us : List Value} {p : Prop} {ds : List D}, viewCs S l = some (p, ds) → p → (∀ i ∈ pubCs l, Own S i → i ∈ ids) → RAs S g l us → RL ⟨g.m.w, lentIm g ids⟩ ds [] us
  | [], us, p, ds, hv, hp, _, hr => by
    simp only [viewCs, Option.some.injEq, Prod.mk.injEq] at hv
    obtain ⟨_, rfl⟩ := hv
    simp only [RAs] at hr
    subst hr
    simp [RL]
  | a :: l, us, p, ds, hv, hp, hids, hr => by
    simp only [viewCs] at hv
    split at hv
    · rename_i p1 d q ds' h1 h2
      simp only [Option.some.injEq, Prod.mk.injEq] at hv
      obtain ⟨rfl, rfl⟩ := hv
      simp only [RAs] at hr
      obtain ⟨u, us', rfl, k1, k2⟩ := hr
      simp only [RL]
      exact ⟨u, us', [], [], rfl, rfl, viewC_ok h ids h1 hp.1 (fun i hi => hids i (by simp [pubCs, hi])) k1, viewCs_ok h ids h2 hp.2 (fun i hi => hids i (by simp [pubCs, hi])) k2⟩
    · cases hv
theorem view_ok {F : Fr} {S : Store} {g : G} (h : RC F S g) (ids : List Nat) {a : AV} {v : Value} {p : Prop} {d : D} (hv : view S a = some (p, d)) (hp : p) (hids : ∀ i ∈ pubs1 a, Own S i → i ∈ ids) (hr : RA S g a v) : R ⟨g.m.w, lentIm g ids⟩ d [] v := by
  cases a with
  | ag l =>
    simp only [view] at hv
    split at hv
    · rename_i p' ds h1
      simp only [Option.some.injEq, Prod.mk.injEq] at hv
      obtain ⟨rfl, rfl⟩ := hv
      simp only [RA] at hr
      obtain ⟨us, rfl, k⟩ := hr
      simp only [R]
      exact ⟨us, rfl, viewCs_ok h ids h1 hp hids k⟩
    · cases hv
  | cl f l =>
    simp only [view] at hv
    split at hv
    · rename_i p' ds h1
      simp only [Option.some.injEq, Prod.mk.injEq] at hv
      obtain ⟨rfl, rfl⟩ := hv
      simp only [RA] at hr
      obtain ⟨us, rfl, k⟩ := hr
      simp only [R]
      exact ⟨us, rfl, viewCs_ok h ids h1 hp hids k⟩
    · cases hv
  | pu d' => simp only [view] at hv; exact viewC_ok h ids hv hp hids hr
  | so id st n => simp only [view] at hv; exact viewC_ok h ids hv hp hids hr
  | _ => simp [view] at hv
theorem views_ok {F : Fr} {S : Store} {g : G} (h : RC F S g) (ids : List Nat) : ∀ {l : List AV} {us : List Value} {p : Prop} {ds : List D}, views S l = some (p, ds) → p → (∀ i ∈ pubs l, Own S i → i ∈ ids) → RAs S g l us → RL ⟨g.m.w, lentIm g ids⟩ ds [] us
  | [], us, p, ds, hv, hp, _, hr => by
    simp only [views, Option.some.injEq, Prod.mk.injEq] at hv
    obtain ⟨_, rfl⟩ := hv
    simp only [RAs] at hr
    subst hr
    simp [RL]
  | a :: l, us, p, ds, hv, hp, hids, hr => by
    simp only [views] at hv
    split at hv
    · rename_i p1 d q ds' h1 h2
      simp only [Option.some.injEq, Prod.mk.injEq] at hv
      obtain ⟨rfl, rfl⟩ := hv
      simp only [RAs] at hr
      obtain ⟨u, us', rfl, k1, k2⟩ := hr
      simp only [RL]
      exact ⟨u, us', [], [], rfl, rfl, view_ok h ids h1 hp.1 (fun i hi => hids i (by simp [pubs, hi])) k1, views_ok h ids h2 hp.2 (fun i hi => hids i (by simp [pubs, hi])) k2⟩
    · cases hv

/-- Data that may stand for other data. -/
def DLe (d d' : D) : Prop := ∀ m bs v, R m d bs v → R m d' bs v
theorem DLe.refl (d : D) : DLe d d := fun _ _ _ h => h
theorem DLe.trans {a b c : D} (h : DLe a b) (k : DLe b c) : DLe a c := fun m bs v r => k m bs v (h m bs v r)
def DLes : List D → List D → Prop
  | [], [] => True
  | d :: ds, d' :: ds' => DLe d d' ∧ DLes ds ds'
  | _, _ => False
theorem DLes.refl : ∀ ds : List D, DLes ds ds
  | [] => trivial
  | d :: ds => ⟨DLe.refl d, DLes.refl ds⟩
theorem DLes.ok {m : Mem} : ∀ {ds ds' : List D} {bs : List Nat} {us : List Value}, DLes ds ds' → RL m ds bs us → RL m ds' bs us
  | [], [], bs, us, _, h => h
  | d :: ds, d' :: ds', bs, us, h, k => by
    simp only [RL] at k ⊢
    obtain ⟨u, us', b1, b2, rfl, hb, k1, k2⟩ := k
    exact ⟨u, us', b1, b2, rfl, hb, h.1 _ _ _ k1, DLes.ok h.2 k2⟩
theorem DLe.nil (own : Bool) (sz : Nat) : DLe (.val (.slice none 0 0)) (.sl own sz []) := fun m bs v h => by
  simp only [R] at h
  rw [h.1, h.2]
  cases own <;> simp [R, nilS]
theorem DLe.ag {ds ds' : List D} (h : DLes ds ds') : DLe (.ag ds) (.ag ds') := fun m bs v k => by
  simp only [R] at k ⊢
  obtain ⟨us, h1, h2⟩ := k
  exact ⟨us, h1, h.ok h2⟩

theorem RArgs_v {m : Mem} : ∀ {ds : List D} {us : List Value}, RL m ds [] us → RArgs m (ds.map .v) [] us
  | [], us, h => by simpa [RL, RArgs] using h
  | d :: ds, us, h => by
    simp only [RL] at h
    obtain ⟨u, us', b1, b2, rfl, hb, k1, k2⟩ := h
    obtain ⟨rfl, rfl⟩ : b1 = [] ∧ b2 = [] := by simpa [eq_comm] using hb
    simp only [List.map_cons, RArgs]
    exact ⟨u, us', [], [], rfl, rfl, ⟨rfl, k1⟩, RArgs_v k2⟩

/-- What may be called, and what it holds. -/
def fnOf : AV → Option (Nat × List AV)
  | .cl f caps => some (f, caps)
  | .pu (.cl f caps) => some (f, caps.map .pu)
  | _ => none

theorem fnOf_ok {S : Store} {g : G} {a : AV} {v : Value} {f : Nat} {caps : List AV} (h : fnOf a = some (f, caps)) (hr : RA S g a v) : ∃ us : List Value, v = .func (.func f) #[] us.toArray ∧ RAs S g caps us := by
  unfold fnOf at h
  split at h
  · simp only [Option.some.injEq, Prod.mk.injEq] at h
    obtain ⟨rfl, rfl⟩ := h
    simpa only [RA] using hr
  · simp only [Option.some.injEq, Prod.mk.injEq] at h
    obtain ⟨rfl, rfl⟩ := h
    simp only [RA, R] at hr
    obtain ⟨us, h1, h2⟩ := hr
    exact ⟨us, h1, RAs_pu h2⟩
  · cases h

theorem RAs_app {S : Store} {g : G} : ∀ {l l' : List AV} {us us' : List Value}, RAs S g l us → RAs S g l' us' → RAs S g (l ++ l') (us ++ us')
  | [], l', us, us', h, k => by simp only [RAs] at h; subst h; exact k
  | a :: l, l', us, us', h, k => by
    simp only [RAs] at h
    obtain ⟨u, us1, rfl, h1, h2⟩ := h
    simp only [List.cons_append, RAs]
    exact ⟨u, us1 ++ us', rfl, h1, RAs_app h2 k⟩

/-- An operation goes on from a state that is told to a state that is told. -/
def Goes (P : Program) (F : Fr) (o : Oper) (a : Act) (S : Store) (g : G) (av : AV) (S' : Store) : Prop :=
  ∀ (K : Act → World → Prop) (Q : Exit → Act → World → Prop), (∀ v g', RC F S' g' → RA S' g' av v → TrS S g S' g' → K (a.put o.dst v) g'.m.w) → o.wp P a g.m.w K Q

theorem Runs.goes {P : Program} {F : Fr} {o : Oper} {a : Act} {S : Store} {g : G} {av : AV} {S' : Store} (h : Runs P F S g (execOp a.eval o) av S') : Goes P F o a S g av S' := by
  intro K Q hK
  obtain ⟨v, g', hr, h1, h2, h3⟩ := h
  have := hK v g' h1 h2 h3
  unfold Oper.wp
  rcases hr with hr | ⟨hr, rfl⟩
  · rw [hr]; exact this
  · rw [hr]; exact this

theorem call_exec {P : Program} {o : Oper} {a : Act} {f : Operand} {xs : Array Operand} {ts : Array TypeId} {id : Nat} {caps : List Value} (ho : o.op = .call { callee := .value f, args := xs, argTypes := ts }) (hf : a.eval f = .func (.func id) #[] caps.toArray) (hb : HasBody P id) (w : World) :
    (execOp a.eval o).run P w = .ok (.enter id (xs.toList.map a.eval ++ caps).toArray) w := by
  obtain ⟨fn, h1, h2, h3⟩ := hb
  have h2' : fn.body.isNone = false := by cases hbb : fn.body <;> simp_all
  simp only [execOp, ho, resolve, hf, Deferred.ofValue, invoke, callFunc, Sem.run_bind, run_program, Sem.run_pure, Result.andThen_ok, h1, h3, h2', Bool.false_eq_true, if_false]
  congr 3
  simp

/-- A call whose arguments and whose result give no way to write, and whose result holds no address. -/
theorem call_prim {P : Program} {F : Fr} {E : Env} {S : Store} {g : G} {a : Act} {o : Oper} (h : Rel F E S g a.tmps) {f : Operand} {xs : Array Operand} {ts : Array TypeId} {cf : Opd} {ys : List Opd} {id : Nat} {caps : List AV} (ho : o.op = .call { callee := .value f, args := xs, argTypes := ts })
    (hcf : cOpd f = some cf) (hcx : cOpds xs.toList = some ys) (hfn : fnOf (ev E cf) = some (id, caps)) {p : Prop} {ds ds' : List D} (hv : views S (ys.map (ev E) ++ caps) = some (p, ds)) (hp : p) (hle : DLes ds ds') {res : D} (hs : Sound P id (ds'.map .v) res (ds'.map .v))
    (hres : ∀ m m' bs v, R m res bs v → R m' res [] v) : Goes P F o a S g (.pu res) S := by
  intro K Q hK
  obtain ⟨us, hfv, hcaps⟩ := fnOf_ok hfn (opd_ok h hcf)
  have hargs := RAs_app (opds_ok h hcx) hcaps
  have hrl := hle.ok (views_ok h.rc ((pubs (ys.map (ev E) ++ caps)).filter fun i => (sget S i).isSome) hv hp (fun i hi hn => List.mem_filter.2 ⟨hi, by obtain ⟨_, _, _, e⟩ := hn; rw [e]; rfl⟩) hargs)
  have hrun := call_exec (P := P) ho hfv hs.1 g.m.w
  let mt : Mem := ⟨g.m.w, lentIm g ((pubs (ys.map (ev E) ++ caps)).filter fun i => (sget S i).isSome)⟩
  unfold Oper.wp
  rw [hrun]
  have hlt : ∀ b, g.m.w.heap.size ≤ b → mt.im b = false := by
    intro b hb
    simp only [mt, lentIm, Bool.or_eq_false_iff, List.any_eq_false, List.contains_iff_mem]
    refine ⟨h.rc.wf b hb, fun i hi hm => ?_⟩
    have := (h.rc.range i (Option.isSome_iff_ne_none.1 (List.mem_filter.1 hi).2) b hm).1
    omega
  refine (hs.2 mt _ [] (h.rc.tab.le ⟨Nat.le_refl _, fun b hb => ⟨by simp [mt, lentIm, hb], rfl⟩⟩) hlt (RArgs_v hrl) (by simp) (by simp) (by simp)).mono ?_
  rintro e w' ⟨v, im', b1, b2, rfl, haft, hr, _⟩
  let g' : G := ⟨g.loc, g.bl, ⟨w', fun b => if b < g.m.w.heap.size then g.m.im b else im' b⟩⟩
  have hkeep : ∀ b, b < g.m.w.heap.size → w'.heap[b]? = g.m.w.heap[b]? := fun b hb => (haft.keep b hb (by simp)).1
  have hm : MemLe g.m g'.m := ⟨haft.size, fun b hb => by
    have hlt : b < g.m.w.heap.size := by
      rcases Nat.lt_or_ge b g.m.w.heap.size with h1 | h1
      · exact h1
      · rw [h.rc.wf b h1] at hb; cases hb
    exact ⟨by simp [g', hlt, hb], hkeep b hlt⟩⟩
  have htr : TrS S g S g' := ⟨hm, fun j oj hj => TrO.same hj rfl⟩
  refine hK v g' (h.rc.update (fun _ => False) htr ⟨fun b hb => ?_, haft.size, fun b hb hB => ⟨hkeep b (Nat.lt_of_lt_of_le hb h.rc.size), by simp [g', Nat.lt_of_lt_of_le hb h.rc.size]⟩, haft.os, haft.tape, haft.output⟩ (fun j _ => ⟨rfl, rfl, rfl⟩) (fun j _ hn b hb => ?_) (fun _ _ hc => hc.elim) (fun _ _ hc => hc.elim)) ?_ htr
  · have hb' : w'.heap.size ≤ b := hb
    have hs' : g.m.w.heap.size ≤ w'.heap.size := haft.size
    simp only [g']
    rw [if_neg (by omega)]
    exact haft.wf b hb'
  · have hlt := (h.rc.range j hn b hb).1
    exact ⟨by simp [g', hlt], hkeep b hlt⟩
  · simp only [RA]
    exact hres _ _ _ _ hr

end Go.Proofs.YtcaemkcglflmnaaDoor.Vm
