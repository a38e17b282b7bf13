/-
  The abstract machine, part B: abstract values with references to the objects of one frame, the store of objects, and how both stand to a world. Conditions: none.
-/
import Derived.Test.YtcaemkcglflmnaaDoorVmA
namespace Go.Proofs.YtcaemkcglflmnaaDoor.Vm
open Go Go.RowKit
variable [Tbl]
set_option linter.unusedSimpArgs false
set_option linter.unusedVariables false
set_option linter.unusedSectionVars false

/-- Abstract values: data; structs, tuples and function values that hold references; the address of a cell of a box; a slice object as it is now (told by its number of elements); the address of a cell of its element; nothing known. -/
inductive AV where
  | pu (d : D)
  | ag (cells : List AV)
  | tp (cells : List AV)
  | ob (id off : Nat)
  | so (id st n : Nat)
  | ep (id st n row col : Nat)
  | cl (f : Nat) (caps : List AV)
  | un
  deriving Inhabited

/-- Objects: a variable in memory; a slice; a variable that is lent for a call. -/
inductive OB where
  | box (cells : List AV)
  | slc (st : Nat) (d : D)
  | hol
  deriving Inhabited

def OB.isBox : OB → Bool
  | .box _ => true
  | .hol => true
  | .slc _ _ => false

abbrev Env := List (Nat × AV)
abbrev Store := List (Nat × OB)
def eget : Env → Nat → AV
  | [], _ => .un
  | (t, a) :: E, u => if t = u then a else eget E u
def sget : Store → Nat → Option OB
  | [], _ => none
  | (t, a) :: S, u => if t = u then some a else sget S u

def D.len : D → Nat
  | .sl _ _ rows => rows.length
  | _ => 0
def D.szOf : D → Nat
  | .sl _ sz _ => sz
  | _ => 0

/-- What is not seen: where the objects lie, their blocks, the memory. -/
structure G where
  loc : Nat → Value
  bl : Nat → List Nat
  m : Mem

mutual
def RA (S : Store) (g : G) : AV → Value → Prop
  | .pu d, v => R g.m d [] v
  | .ag l, v => ∃ us : List Value, v = .agg us.toArray ∧ RAs S g l us
  | .tp l, v => ∃ us : List Value, v = .tuple us.toArray ∧ RAs S g l us
  | .ob id off, v => (∃ o, sget S id = some o ∧ o.isBox = true) ∧ ∃ b, g.loc id = ptr b 0 ∧ v = ptr b off
  | .so id st n, v => ∃ st' d, sget S id = some (.slc st' d) ∧ st ≤ st' ∧ (st = st' → n ≤ d.len ∧ (n = d.len → v = g.loc id))
  | .ep id st n i j, v => ∃ st' d, sget S id = some (.slc st' d) ∧ st ≤ st' ∧ (st = st' → n ≤ d.len ∧ (n = d.len → ∃ b c, g.loc id = .slice (some ⟨b, 0, none⟩) n c ∧ v = ptr b (i * d.szOf + j)))
  | .cl f caps, v => ∃ us : List Value, v = .func (.func f) #[] us.toArray ∧ RAs S g caps us
  | .un, _ => True
def RAs (S : Store) (g : G) : List AV → List Value → Prop
  | [], us => us = []
  | a :: l, us => ∃ (u : Value) (us' : List Value), us = u :: us' ∧ RA S g a u ∧ RAs S g l us'
end

/-- An object lies in memory as it is told. -/
def RO (S : Store) (g : G) (id : Nat) : OB → Prop
  | .box cells => ∃ (b : Nat) (t : Nat) (us : List Value), g.loc id = ptr b 0 ∧ g.bl id = [b] ∧ g.m.im b = false ∧ g.m.w.heap[b]? = some (.cells us.toArray t (0, 0)) ∧ RAs S g cells us ∧ (∀ u ∈ us, cellV u = true)
  | .slc _ d => (∃ own sz rows, d = .sl own sz rows) ∧ R g.m d (g.bl id) (g.loc id)
  | .hol => (∃ b, g.loc id = ptr b 0) ∧ g.bl id = []

/-- The frame's begin: the world, its published blocks, the blocks that were lent to it. -/
structure Fr where
  w0 : World
  im0 : Nat → Bool
  B0 : List Nat
  tab : Tab ⟨w0, im0⟩
  b0 : ∀ b ∈ B0, im0 b = false

structure RC (F : Fr) (S : Store) (g : G) : Prop where
  obj : ∀ id o, sget S id = some o → RO S g id o
  nodup : ∀ id, sget S id ≠ none → (g.bl id).Nodup
  disj : ∀ i j, i ≠ j → sget S i ≠ none → sget S j ≠ none → ∀ b ∈ g.bl i, b ∉ g.bl j
  range : ∀ id, sget S id ≠ none → ∀ b ∈ g.bl id, b < g.m.w.heap.size ∧ (F.w0.heap.size ≤ b ∨ b ∈ F.B0)
  wf : ∀ b, g.m.w.heap.size ≤ b → g.m.im b = false
  size : F.w0.heap.size ≤ g.m.w.heap.size
  keep : ∀ b, b < F.w0.heap.size → b ∉ F.B0 → g.m.w.heap[b]? = F.w0.heap[b]? ∧ g.m.im b = F.im0 b
  os : g.m.w.os = F.w0.os
  tape : g.m.w.tape = F.w0.tape
  output : g.m.w.output = F.w0.output

theorem RC.tab {F : Fr} {S : Store} {g : G} (h : RC F S g) : Tab g.m := fun q hq => by
  obtain ⟨h1, t, fz, h2⟩ := F.tab q hq
  have hlt : q.1 < F.w0.heap.size := (Array.getElem?_eq_some_iff.1 h2).1
  obtain ⟨k1, k2⟩ := h.keep q.1 hlt (fun hb => by have h1' : F.im0 q.1 = true := h1; rw [F.b0 _ hb] at h1'; cases h1')
  exact ⟨k2.trans h1, t, fz, k1.trans h2⟩

/-- From one state to a later one: each object is still there, and a reference to it that tells of it now still does. -/
def TrO (S' : Store) (g g' : G) (id : Nat) : OB → Prop
  | .box _ => (∃ o', sget S' id = some o' ∧ o'.isBox = true) ∧ g'.loc id = g.loc id
  | .hol => (∃ o', sget S' id = some o' ∧ o'.isBox = true) ∧ g'.loc id = g.loc id
  | .slc st d => ∃ st' d', sget S' id = some (.slc st' d') ∧ st ≤ st' ∧ (st' = st → d.len ≤ d'.len ∧ d'.szOf = d.szOf ∧ (d'.len = d.len → g'.loc id = g.loc id))
def TrS (S : Store) (g : G) (S' : Store) (g' : G) : Prop := MemLe g.m g'.m ∧ ∀ id o, sget S id = some o → TrO S' g g' id o

theorem TrO.same {S' : Store} {g g' : G} {id : Nat} {o : OB} (h : sget S' id = some o) (hl : g'.loc id = g.loc id) : TrO S' g g' id o := by
  cases o with
  | box c => exact ⟨⟨_, h, rfl⟩, hl⟩
  | hol => exact ⟨⟨_, h, rfl⟩, hl⟩
  | slc st d => exact ⟨st, d, h, Nat.le_refl _, fun _ => ⟨Nat.le_refl _, rfl, fun _ => hl⟩⟩

theorem TrS.refl (S : Store) (g : G) : TrS S g S g := ⟨MemLe.refl _, fun _ _ h => .same h rfl⟩

mutual
theorem RA_tr {S S' : Store} {g g' : G} (h : TrS S g S' g') : ∀ (a : AV) (v : Value), RA S g a v → RA S' g' a v
  | .pu d, v, k => by simp only [RA] at k ⊢; exact R_mono h.1 d [] v (KeepB.nil _ _) k
  | .ag l, v, k => by simp only [RA] at k ⊢; obtain ⟨us, h1, h2⟩ := k; exact ⟨us, h1, RAs_tr h l us h2⟩
  | .tp l, v, k => by simp only [RA] at k ⊢; obtain ⟨us, h1, h2⟩ := k; exact ⟨us, h1, RAs_tr h l us h2⟩
  | .ob id off, v, k => by
    simp only [RA] at k ⊢
    obtain ⟨⟨o, h1, h0⟩, b, h2, h3⟩ := k
    have h4 := h.2 id _ h1
    cases o with
    | box c => exact ⟨h4.1, b, h4.2.trans h2, h3⟩
    | hol => exact ⟨h4.1, b, h4.2.trans h2, h3⟩
    | slc st d => cases h0
  | .so id st n, v, k => by
    simp only [RA] at k ⊢
    obtain ⟨st1, d, h1, h2, h3⟩ := k
    obtain ⟨st2, d2, h4, h5, h6⟩ := h.2 id _ h1
    refine ⟨st2, d2, h4, Nat.le_trans h2 h5, fun he => ?_⟩
    obtain rfl : st = st1 := by omega
    subst he
    obtain ⟨k1, k2⟩ := h3 rfl
    obtain ⟨k3, k4, k5⟩ := h6 rfl
    refine ⟨Nat.le_trans k1 k3, fun hn => ?_⟩
    rw [k2 (by omega), k5 (by omega)]
  | .ep id st n i j, v, k => by
    simp only [RA] at k ⊢
    obtain ⟨st1, d, h1, h2, h3⟩ := k
    obtain ⟨st2, d2, h4, h5, h6⟩ := h.2 id _ h1
    refine ⟨st2, d2, h4, Nat.le_trans h2 h5, fun he => ?_⟩
    obtain rfl : st = st1 := by omega
    subst he
    obtain ⟨k1, k2⟩ := h3 rfl
    obtain ⟨k3, k4, k5⟩ := h6 rfl
    refine ⟨Nat.le_trans k1 k3, fun hn => ?_⟩
    obtain ⟨b, c, e1, e2⟩ := k2 (by omega)
    exact ⟨b, c, (k5 (by omega)).trans e1, by rw [k4]; exact e2⟩
  | .cl f caps, v, k => by simp only [RA] at k ⊢; obtain ⟨us, h1, h2⟩ := k; exact ⟨us, h1, RAs_tr h caps us h2⟩
  | .un, v, _ => by simp only [RA]
theorem RAs_tr {S S' : Store} {g g' : G} (h : TrS S g S' g') : ∀ (l : List AV) (us : List Value), RAs S g l us → RAs S' g' l us
  | [], us, k => by simpa only [RAs] using k
  | a :: l, us, k => by
    simp only [RAs] at k ⊢
    obtain ⟨u, us', h1, h2, h3⟩ := k
    exact ⟨u, us', h1, RA_tr h a u h2, RAs_tr h l us' h3⟩
end

theorem RAs_length {S : Store} {g : G} : ∀ (l : List AV) (us : List Value), RAs S g l us → us.length = l.length
  | [], us, k => by simp only [RAs] at k; simp [k]
  | a :: l, us, k => by
    simp only [RAs] at k
    obtain ⟨u, us', rfl, _, h3⟩ := k
    simp [RAs_length l us' h3]

theorem RAs_iff {S : Store} {g : G} : ∀ (l : List AV) (us : List Value), RAs S g l us ↔ us.length = l.length ∧ ∀ (j : Nat) (a : AV) (u : Value), l[j]? = some a → us[j]? = some u → RA S g a u
  | [], us => by simp only [RAs]; constructor
                 · rintro rfl; simp
                 · rintro ⟨h, _⟩; exact List.eq_nil_of_length_eq_zero h
  | a :: l, us => by
    simp only [RAs]
    constructor
    · rintro ⟨u, us', rfl, h2, h3⟩
      obtain ⟨k1, k2⟩ := (RAs_iff l us').1 h3
      refine ⟨by simp [k1], fun j b x hj hx => ?_⟩
      cases j with
      | zero => simp at hj hx; subst hj; subst hx; exact h2
      | succ j => simp at hj hx; exact k2 j b x hj hx
    · rintro ⟨h1, h2⟩
      cases us with
      | nil => simp at h1
      | cons u us' => exact ⟨u, us', rfl, h2 0 a u rfl rfl, (RAs_iff l us').2 ⟨by simpa using h1, fun j b x hj hx => h2 (j + 1) b x (by simpa using hj) (by simpa using hx)⟩⟩

theorem RAs_get {S : Store} {g : G} {l : List AV} {us : List Value} (h : RAs S g l us) {i : Nat} {a : AV} (hi : l[i]? = some a) : ∃ u, us[i]? = some u ∧ RA S g a u := by
  rw [RAs_iff] at h
  have hlt : i < us.length := by rw [h.1]; exact (List.getElem?_eq_some_iff.1 hi).1
  exact ⟨us[i], by simp [hlt], h.2 i a _ hi (by simp [hlt])⟩
theorem RAs_sub {S : Store} {g : G} {l : List AV} {us : List Value} (o n : Nat) (h : RAs S g l us) : RAs S g ((l.drop o).take n) ((us.drop o).take n) := by
  rw [RAs_iff] at h ⊢
  refine ⟨by simp [h.1], fun j d u hj hu => ?_⟩
  rw [List.getElem?_take] at hj hu
  split at hj
  · rename_i hlt; rw [if_pos hlt] at hu; rw [List.getElem?_drop] at hj hu; exact h.2 _ d u hj hu
  · cases hj
theorem RAs_set {S : Store} {g : G} {l : List AV} {us : List Value} (h : RAs S g l us) (i : Nat) {a : AV} {u : Value} (ha : RA S g a u) : RAs S g (l.set i a) (us.set i u) := by
  rw [RAs_iff] at h ⊢
  refine ⟨by simp [h.1], fun j d x hj hx => ?_⟩
  rw [List.getElem?_set] at hj hx
  split at hj
  · rename_i he
    rw [if_pos he] at hx
    split at hj
    · rename_i hl
      rw [if_pos (by omega)] at hx
      simp at hj hx; subst hj; subst hx; exact ha
    · cases hj
  · rename_i he; rw [if_neg he] at hx; exact h.2 _ d x hj hx
theorem RAs_pu {S : Store} {g : G} : ∀ {ds : List D} {us : List Value}, RL g.m ds [] us → RAs S g (ds.map .pu) us
  | [], us, h => by simp only [RL] at h; simp [RAs, h.2]
  | d :: ds, us, h => by
    simp only [RL] at h
    obtain ⟨u, us', b1, b2, rfl, hb, h3, h4⟩ := h
    obtain ⟨rfl, rfl⟩ : b1 = [] ∧ b2 = [] := by simpa [eq_comm] using hb
    simp only [List.map_cons, RAs]
    exact ⟨u, us', rfl, by simpa only [RA] using h3, RAs_pu h4⟩

theorem RO_keep {S S' : Store} {g g' : G} (h : TrS S g S' g') {id : Nat} {o : OB} (hb : g'.bl id = g.bl id) (hl : g'.loc id = g.loc id) (hk : KeepB g.m g'.m (g.bl id)) (k : RO S g id o) : RO S' g' id o := by
  cases o with
  | box cells =>
    obtain ⟨b, t, us, h1, h2, h3, h4, h5, h6⟩ := k
    have := hk b (by rw [h2]; simp)
    exact ⟨b, t, us, hl.trans h1, hb.trans h2, this.1.trans h3, this.2.trans h4, RAs_tr h _ _ h5, h6⟩
  | slc st d =>
    obtain ⟨h1, h2⟩ := k
    refine ⟨h1, ?_⟩
    rw [hb, hl]
    exact R_mono h.1 d _ _ hk h2
  | hol =>
    obtain ⟨⟨b, h1⟩, h2⟩ := k
    exact ⟨⟨b, hl.trans h1⟩, hb.trans h2⟩

/-- Frames of memory: what a step may do to blocks. -/
structure MStep (F : Fr) (g g' : G) : Prop where
  wf : ∀ b, g'.m.w.heap.size ≤ b → g'.m.im b = false
  size : g.m.w.heap.size ≤ g'.m.w.heap.size
  keep : ∀ b, b < F.w0.heap.size → b ∉ F.B0 → g'.m.w.heap[b]? = g.m.w.heap[b]? ∧ g'.m.im b = g.m.im b
  os : g'.m.w.os = g.m.w.os
  tape : g'.m.w.tape = g.m.w.tape
  output : g'.m.w.output = g.m.w.output

/-- Some objects (those of C) are made or turned; all others are as they were. -/
theorem RC.update {F : Fr} {S S' : Store} {g g' : G} (h : RC F S g) (C : Nat → Prop) (ht : TrS S g S' g') (hs : MStep F g g')
    (hget : ∀ i, ¬ C i → sget S' i = sget S i ∧ g'.loc i = g.loc i ∧ g'.bl i = g.bl i)
    (hkeep : ∀ i, ¬ C i → sget S i ≠ none → KeepB g.m g'.m (g.bl i))
    (hnew : ∀ i o, C i → sget S' i = some o → RO S' g' i o ∧ (g'.bl i).Nodup ∧ ∀ b ∈ g'.bl i, b < g'.m.w.heap.size ∧ (F.w0.heap.size ≤ b ∨ b ∈ F.B0))
    (hdisj : ∀ i j, C i → i ≠ j → sget S' i ≠ none → sget S' j ≠ none → ∀ b ∈ g'.bl i, b ∉ g'.bl j) : RC F S' g' where
  obj id o ho := by
    by_cases hc : C id
    · exact (hnew id o hc ho).1
    · obtain ⟨e1, e2, e3⟩ := hget id hc
      rw [e1] at ho
      exact RO_keep ht e3 e2 (hkeep id hc (by rw [ho]; simp)) (h.obj id o ho)
  nodup id hn := by
    by_cases hc : C id
    · obtain ⟨o, ho⟩ := Option.ne_none_iff_exists'.1 hn
      exact (hnew id o hc ho).2.1
    · obtain ⟨e1, _, e3⟩ := hget id hc
      rw [e3]; exact h.nodup id (by rwa [e1] at hn)
  disj i j hij hi hj := by
    by_cases hc : C i
    · exact hdisj i j hc hij hi hj
    · by_cases hd : C j
      · intro b hb hb'
        exact hdisj j i hd (Ne.symm hij) hj hi b hb' hb
      · obtain ⟨e1, _, e3⟩ := hget i hc
        obtain ⟨k1, _, k3⟩ := hget j hd
        rw [e3, k3]
        exact h.disj i j hij (by rwa [e1] at hi) (by rwa [k1] at hj)
  range id hn := by
    by_cases hc : C id
    · obtain ⟨o, ho⟩ := Option.ne_none_iff_exists'.1 hn
      exact (hnew id o hc ho).2.2
    · obtain ⟨e1, _, e3⟩ := hget id hc
      intro b hb
      rw [e3] at hb
      have := h.range id (by rwa [e1] at hn) b hb
      exact ⟨Nat.lt_of_lt_of_le this.1 hs.size, this.2⟩
  wf := hs.wf
  size := Nat.le_trans h.size hs.size
  keep b hb hB := ⟨(hs.keep b hb hB).1.trans (h.keep b hb hB).1, (hs.keep b hb hB).2.trans (h.keep b hb hB).2⟩
  os := hs.os.trans h.os
  tape := hs.tape.trans h.tape
  output := hs.output.trans h.output

/-- A state of a frame: its temporaries and the world. -/
structure Rel (F : Fr) (E : Env) (S : Store) (g : G) (tm : Array Value) : Prop where
  env : ∀ t, RA S g (eget E t) (tm.getD t undef)
  rc : RC F S g

end Go.Proofs.YtcaemkcglflmnaaDoor.Vm
