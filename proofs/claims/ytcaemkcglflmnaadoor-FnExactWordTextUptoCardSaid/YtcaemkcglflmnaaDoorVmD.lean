/-
  The abstract machine, part D: each compact operation is what the machine's own operation does. Conditions: none.
-/
import Derived.Test.YtcaemkcglflmnaaDoorVmC
namespace Go.Proofs.YtcaemkcglflmnaaDoor.Vm
open Go Go.RowKit
variable [Tbl]
set_option linter.unusedSimpArgs false
set_option linter.unusedVariables false
set_option linter.unusedSectionVars false

def aggT : TypeDesc → Bool
  | .struct _ | .array _ _ => true
  | _ => false

/-- An operation runs, to a value that is told, from a state that is told to a state that is told. -/
def Runs (P : Program) (F : Fr) (S : Store) (g : G) (s : Sem Next) (av : AV) (S' : Store) : Prop :=
  ∃ v g', (s.run P g.m.w = .ok (.value v) g'.m.w ∨ (s.run P g.m.w = .ok .skip g'.m.w ∧ v = undef)) ∧ RC F S' g' ∧ RA S' g' av v ∧ TrS S g S' g'

theorem Runs.pure {P : Program} {F : Fr} {S : Store} {g : G} {s : Sem Next} {av : AV} {v : Value} (hrc : RC F S g) (hrun : s.run P g.m.w = .ok (.value v) g.m.w) (hv : RA S g av v) :
    Runs P F S g s av ([] ++ S) := ⟨v, g, .inl hrun, hrc, hv, TrS.refl _ _⟩

def cOpd : Operand → Option Opd
  | .tmp t => some (.t t)
  | .const v => some (.c v)
  | .func f => some (.f f)
  | .global _ => none
def cOpds : List Operand → Option (List Opd)
  | [] => some []
  | x :: r => match cOpd x, cOpds r with | some y, some s => some (y :: s) | _, _ => none

theorem opd_ok {F : Fr} {E : Env} {S : Store} {g : G} {a : Act} (h : Rel F E S g a.tmps) {x : Operand} {y : Opd} (hc : cOpd x = some y) : RA S g (ev E y) (a.eval x) := by
  cases x with
  | tmp t => simp only [cOpd, Option.some.injEq] at hc; subst hc; exact h.env t
  | const v => simp only [cOpd, Option.some.injEq] at hc; subst hc; simp only [ev, RA, R, Act.eval]; exact ⟨trivial, trivial⟩
  | func f => simp only [cOpd, Option.some.injEq] at hc; subst hc; simp only [ev, RA, RAs, Act.eval]; exact ⟨[], rfl, rfl⟩
  | global n => simp [cOpd] at hc

theorem cellV_eq (v : Value) : cellV v = v.oneCell' := by cases v <;> rfl

/-! ### a value's cells -/
theorem R_sl_cell {m : Mem} {own : Bool} {sz : Nat} {rows : List (List D)} {bs : List Nat} {v : Value} (h : R m (.sl own sz rows) bs v) : ∃ A c, v = .slice A rows.length c := by
  cases own with
  | true =>
    simp only [R] at h
    rcases h.2 with ⟨rfl, _, rfl⟩ | ⟨b, c, arr, t, us, bs', _, h2, _⟩
    · exact ⟨none, 0, rfl⟩
    · exact ⟨_, c, h2⟩
  | false =>
    simp only [R] at h
    obtain ⟨_, _, A, c, h2, _⟩ := h
    exact ⟨A, c, h2⟩

theorem okCell_cellV {F : Fr} {S : Store} {g : G} (hrc : RC F S g) {a : AV} {v : Value} (ho : okCell S a) (h : RA S g a v) : cellV v = true := by
  cases a with
  | pu d =>
    cases d with
    | val x => simp only [RA, R] at h; rw [h.2]; exact ho
    | sl own sz rows => simp only [RA] at h; obtain ⟨A, c, rfl⟩ := R_sl_cell h; rfl
    | rp cells => simp only [RA, R] at h; obtain ⟨_, b, o, arr, t, fz, us, rfl, _⟩ := h; rfl
    | cl f caps => simp only [RA, R] at h; obtain ⟨us, rfl, _⟩ := h; rfl
    | ag l => exact ho.elim
    | tp l => exact ho.elim
  | so id st n =>
    simp only [RA] at h
    obtain ⟨st', d, h1, h2, h3⟩ := h
    simp only [okCell, h1] at ho
    obtain ⟨rfl, rfl⟩ := ho
    obtain ⟨_, hv⟩ := h3 rfl
    have := hrc.obj id _ h1
    obtain ⟨⟨own, sz, rows, rfl⟩, hr⟩ := this
    obtain ⟨A, c, e⟩ := R_sl_cell hr
    rw [hv rfl, e]; rfl
  | ob id off => simp only [RA] at h; obtain ⟨_, b, _, rfl⟩ := h; rfl
  | cl f caps => simp only [RA] at h; obtain ⟨us, rfl, _⟩ := h; rfl
  | ep id st n i j => exact ho.elim
  | ag l => exact ho.elim
  | tp l => exact ho.elim
  | un => exact ho.elim

theorem okCells_all {F : Fr} {S : Store} {g : G} (hrc : RC F S g) : ∀ {l : List AV} {us : List Value}, okCells S l → RAs S g l us → ∀ u ∈ us, cellV u = true
  | [], us, _, h, u, hu => by simp only [RAs] at h; simp [h] at hu
  | a :: l, us, ho, h, u, hu => by
    simp only [RAs] at h
    obtain ⟨x, us', rfl, h2, h3⟩ := h
    simp only [List.mem_cons] at hu
    rcases hu with rfl | hu
    · exact okCell_cellV hrc ho.1 h2
    · exact okCells_all hrc ho.2 h3 u hu

theorem cells_one {v : Value} (h : cellV v = true) : v.cells = #[v] := by cases v <;> first | rfl | (simp [cellV] at h)

theorem cellsOf_ok {F : Fr} {S : Store} {g : G} (hrc : RC F S g) {a : AV} {v : Value} (ho : okCells S (cellsOf a)) (h : RA S g a v) :
    ∃ us : List Value, v.cells = us.toArray ∧ RAs S g (cellsOf a) us ∧ ∀ u ∈ us, cellV u = true := by
  have one : ∀ (a : AV), cellsOf a = [a] → okCells S (cellsOf a) → RA S g a v → ∃ us : List Value, v.cells = us.toArray ∧ RAs S g (cellsOf a) us ∧ ∀ u ∈ us, cellV u = true := by
    intro a he ho h
    rw [he] at ho ⊢
    have hc := okCell_cellV hrc ho.1 h
    exact ⟨[v], cells_one hc, by simp only [RAs]; exact ⟨v, [], rfl, h, rfl⟩, by simpa using hc⟩
  cases a with
  | ag l =>
    simp only [RA] at h
    obtain ⟨us, rfl, h2⟩ := h
    exact ⟨us, rfl, h2, okCells_all hrc ho h2⟩
  | pu d =>
    cases d with
    | ag ds =>
      simp only [RA, R] at h
      obtain ⟨us, rfl, h2⟩ := h
      have h3 : RAs S g (ds.map .pu) us := RAs_pu h2
      exact ⟨us, rfl, h3, okCells_all hrc ho h3⟩
    | _ => exact one _ rfl ho h
  | _ => exact one _ rfl ho h

/-! ### new objects -/
def G.upd (g : G) (id : Nat) (v : Value) (bs : List Nat) (m : Mem) : G := ⟨fun i => if i = id then v else g.loc i, fun i => if i = id then bs else g.bl i, m⟩

theorem sget_cons_ne {S : Store} {id i : Nat} {o : OB} (h : i ≠ id) : sget ((id, o) :: S) i = sget S i := by simp [sget, Ne.symm h]
theorem sget_cons_eq {S : Store} {id : Nat} {o : OB} : sget ((id, o) :: S) id = some o := by simp [sget]

theorem lt_of_block {w : World} {b : Nat} {o : Obj} (h : w.heap[b]? = some o) : b < w.heap.size := (Array.getElem?_eq_some_iff.1 h).1

/-- A new object at a place that holds none, in new blocks. -/
theorem RC.fresh {F : Fr} {S : Store} {g : G} (h : RC F S g) {id : Nat} (hid : sget S id = none) {m' : Mem} {v : Value} {bs : List Nat} {o : OB}
    (hsz : g.m.w.heap.size ≤ m'.w.heap.size) (hold : ∀ b, b < g.m.w.heap.size → m'.im b = g.m.im b ∧ m'.w.heap[b]? = g.m.w.heap[b]?) (hwf : ∀ b, m'.w.heap.size ≤ b → m'.im b = false)
    (hos : m'.w.os = g.m.w.os) (htape : m'.w.tape = g.m.w.tape) (hout : m'.w.output = g.m.w.output)
    (hro : TrS S g ((id, o) :: S) (g.upd id v bs m') → RO ((id, o) :: S) (g.upd id v bs m') id o) (hnd : bs.Nodup) (hr : ∀ b ∈ bs, g.m.w.heap.size ≤ b ∧ b < m'.w.heap.size) :
    RC F ((id, o) :: S) (g.upd id v bs m') ∧ TrS S g ((id, o) :: S) (g.upd id v bs m') := by
  have hle : MemLe g.m m' := ⟨hsz, fun b hb => by
    have hlt : b < g.m.w.heap.size := by
      rcases Nat.lt_or_ge b g.m.w.heap.size with h1 | h1
      · exact h1
      · rw [h.wf b h1] at hb; cases hb
    exact ⟨(hold b hlt).1.trans hb, (hold b hlt).2⟩⟩
  have hne : ∀ i o', sget S i = some o' → i ≠ id := fun i o' hi he => by rw [he, hid] at hi; cases hi
  have htr : TrS S g ((id, o) :: S) (g.upd id v bs m') := ⟨hle, fun i o' hi => TrO.same (by rw [sget_cons_ne (hne i o' hi)]; exact hi) (by simp [G.upd, hne i o' hi])⟩
  refine ⟨h.update (· = id) htr ⟨hwf, hsz, fun b hb _ => ⟨(hold b (Nat.lt_of_lt_of_le hb h.size)).2, (hold b (Nat.lt_of_lt_of_le hb h.size)).1⟩, hos, htape, hout⟩ ?_ ?_ ?_ ?_, htr⟩
  · intro i hi; exact ⟨sget_cons_ne hi, by simp [G.upd, hi], by simp [G.upd, hi]⟩
  · intro i hi hn b hb
    have := (h.range i hn b hb).1
    exact hold b this
  · rintro i o' rfl ho
    rw [sget_cons_eq] at ho
    obtain rfl := Option.some.inj ho
    refine ⟨hro htr, by simpa [G.upd] using hnd, fun b hb => ?_⟩
    have hb' : b ∈ bs := by simpa [G.upd] using hb
    exact ⟨(hr b hb').2, .inl (Nat.le_trans h.size (hr b hb').1)⟩
  · rintro i j rfl hij _ hj b hb hb'
    have hb1 : b ∈ bs := by simpa [G.upd] using hb
    have hji : ¬ j = i := fun e => hij e.symm
    have hb2 : b ∈ g.bl j := by simpa [G.upd, hji] using hb'
    rw [sget_cons_ne hji] at hj
    have := (h.range j hj b hb2).1
    have := (hr b hb1).1
    omega

theorem heap_alloc_old {w : World} {o : Obj} {b : Nat} (h : b < w.heap.size) : (w.alloc o).heap[b]? = w.heap[b]? := Below.heap_alloc w o b h
theorem heap_alloc_new {w : World} {o : Obj} : (w.alloc o).heap[w.heap.size]? = some o := by show (w.heap.push o)[w.heap.size]? = _; simp

/-- A new variable. -/
theorem Runs.newbox {P : Program} {F : Fr} {S : Store} {g : G} (hrc : RC F S g) {s : Sem Next} {dst : Nat} {cells : List AV} {us : List Value} {t : Nat} (hid : sget S dst = none)
    (hc : RAs S g cells us) (hcv : ∀ u ∈ us, cellV u = true) (hrun : s.run P g.m.w = .ok (.value (ptr g.m.w.heap.size 0)) (g.m.w.alloc (.cells us.toArray t))) :
    Runs P F S g s (.ob dst 0) ([(dst, .box cells)] ++ S) := by
  have key := hrc.fresh hid (m' := ⟨g.m.w.alloc (.cells us.toArray t), g.m.im⟩) (v := ptr g.m.w.heap.size 0) (bs := [g.m.w.heap.size]) (o := .box cells)
    (by simp) (fun b hb => ⟨rfl, heap_alloc_old hb⟩) (fun b hb => hrc.wf b (by simp at hb; omega)) rfl rfl rfl
    (fun htr => ⟨g.m.w.heap.size, t, us, by simp [G.upd], by simp [G.upd], hrc.wf _ (Nat.le_refl _), heap_alloc_new, RAs_tr htr _ _ hc, hcv⟩) (by simp) (by simp)
  refine ⟨_, _, .inl hrun, key.1, ?_, key.2⟩
  simp only [RA, List.cons_append, List.nil_append, sget_cons_eq, G.upd, if_true]
  exact ⟨⟨_, rfl, rfl⟩, _, rfl, rfl⟩

theorem RAs_vals {S : Store} {g : G} : ∀ (l : List Value), RAs S g (l.map fun v => .pu (.val v)) l
  | [] => by simp [RAs]
  | v :: l => by simp only [List.map_cons, RAs]; exact ⟨v, l, rfl, by simp only [RA, R]; exact ⟨trivial, trivial⟩, RAs_vals l⟩

section
variable {P : Program} {F : Fr} {E : Env} {S : Store} {g : G} {a : Act} {o : Oper}

theorem run_mv (h : Rel F E S g a.tmps) {x : Operand} {y : Opd} (ho : o.op = .move x ∨ o.op = .assign x) (hc : cOpd x = some y) : Runs P F S g (execOp a.eval o) (ev E y) ([] ++ S) := by
  refine Runs.pure h.rc ?_ (opd_ok h hc)
  rcases ho with ho | ho <;> simp [execOp, ho]

theorem run_alloc (h : Rel F E S g a.tmps) {t : TypeId} {i : TypeInfo} {z : Value} {dst : Nat} (ho : o.op = .alloc t) (hi : P.info? t = some i) (hz : i.zero = some z) (hcv : ∀ u ∈ z.cells.toList, cellV u = true) (hid : sget S dst = none) :
    Runs P F S g (execOp a.eval o) (.ob dst 0) ([(dst, .box (z.cells.toList.map fun v => .pu (.val v)))] ++ S) := by
  refine Runs.newbox h.rc (t := t) (us := z.cells.toList) hid (RAs_vals _) hcv ?_
  simp [execOp, ho, Instr.alloc, zeroValue, typeInfo, hi, hz, newVar, newRow, ptr]

theorem run_box (h : Rel F E S g a.tmps) {t : TypeId} {x : Operand} {y : Opd} {dst : Nat} (ho : o.op = .box t x) (hc : cOpd x = some y) (hid : sget S dst = none) (hok : okCells S (cellsOf (ev E y))) :
    Runs P F S g (execOp a.eval o) (.ob dst 0) ([(dst, .box (cellsOf (ev E y)))] ++ S) := by
  obtain ⟨us, h1, h2, h3⟩ := cellsOf_ok h.rc hok (opd_ok h hc)
  refine Runs.newbox h.rc (t := t) (us := us) hid h2 h3 ?_
  simp [execOp, ho, Instr.box, newVar, newRow, ptr, h1]

/-- Cells of a block, read one after the other. -/
theorem cell_at {w : World} {b o : Nat} {arr : Array Value} {t : Nat} {fz : Nat × Nat} (h : w.heap[b]? = some (.cells arr t fz)) : w.cell? ⟨b, o, none⟩ = arr[o]? := by simp [World.cell?, h]
theorem addr_add (b o j : Nat) : (⟨b, o, none⟩ : Addr).add j = ⟨b, o + j, none⟩ := by unfold Addr.add; split <;> simp_all

theorem run_loadVar {w : World} {t : TypeId} {i : TypeInfo} {d : TypeDesc} {agg : Bool} {b off : Nat} {us : List Value} (hi : P.info? t = some i) (hd : P.underlying t = some d)
    (ha : agg = aggT d) (hl : agg = true → us.length = i.size) (hl1 : agg = false → us.length = 1)
    (hc : ∀ j u, us[j]? = some u → w.cell? ⟨b, off + j, none⟩ = some u) :
    (Instr.loadAt t (ptr b off)).run P w = .ok (if agg then .agg us.toArray else us.getD 0 undef) w := by
  have hagg : (isAgg t).run P w = .ok agg w := by
    unfold isAgg
    simp only [Sem.run_bind, run_underlying hd, Result.andThen_ok]
    rw [ha]; cases d <;> rfl
  cases agg with
  | true =>
    have := run_loadCells_list (P := P) w ⟨b, off, none⟩ us (fun j v hj => by rw [addr_add]; exact hc j v hj)
    simp [Instr.loadAt, Instr.sureAddr, ptr, loadVar, hagg, sizeOf, typeInfo, hi, ← hl rfl, this]
  | false =>
    have h1 := hl1 rfl
    have : us = [us.getD 0 undef] := by
      match us, h1 with
      | [u], _ => rfl
    have h0 := hc 0 (us.getD 0 undef) (by rw [this]; rfl)
    rw [Nat.add_zero] at h0
    simp [Instr.loadAt, Instr.sureAddr, ptr, loadVar, hagg, h0]

theorem run_load_box (h : Rel F E S g a.tmps) {t : TypeId} {i : TypeInfo} {d : TypeDesc} {agg : Bool} {x : Operand} {y : Opd} {id off : Nat} {cells : List AV} (ho : o.op = .load t x) (hc : cOpd x = some y) (hi : P.info? t = some i) (hd : P.underlying t = some d)
    (ha : agg = aggT d) (he : ev E y = .ob id off) (hs : sget S id = some (.box cells)) (hb : agg = true → off + i.size ≤ cells.length) (av : AV)
    (hav : if agg then av = .ag ((cells.drop off).take i.size) else cells[off]? = some av) : Runs P F S g (execOp a.eval o) av ([] ++ S) := by
  have hv := opd_ok h hc
  rw [he] at hv
  simp only [RA] at hv
  obtain ⟨_, b, h1, h2⟩ := hv
  obtain ⟨b', t', us, k1, k2, k3, k4, k5, k6⟩ := h.rc.obj id _ hs
  obtain rfl : b' = b := by rw [h1] at k1; simpa [ptr] using k1.symm
  have hlen := RAs_length _ _ k5
  cases agg with
  | true =>
    have hb' := hb rfl
    have hr := run_loadVar (P := P) (w := g.m.w) (t := t) (b := b') (off := off) (us := (us.drop off).take i.size) hi hd ha (fun _ => by simp; omega) (fun e => by cases e)
      (fun j u hj => by
        rw [cell_at k4]
        rw [List.getElem?_take] at hj
        split at hj
        · rw [List.getElem?_drop] at hj; simpa using hj
        · cases hj)
    refine Runs.pure h.rc (v := .agg ((us.drop off).take i.size).toArray) ?_ ?_
    · simp [execOp, ho, h2, hr]
    · simp only [if_true] at hav; rw [hav]; simp only [RA]; exact ⟨_, rfl, RAs_sub off i.size k5⟩
  | false =>
    simp only [Bool.false_eq_true, if_false] at hav
    obtain ⟨u, hu, hru⟩ := RAs_get k5 hav
    have hr := run_loadVar (P := P) (w := g.m.w) (t := t) (b := b') (off := off) (us := [u]) hi hd ha (fun e => by cases e) (fun _ => rfl)
      (fun j x hj => by rw [cell_at k4]; cases j with
        | zero => simp at hj; subst hj; simpa using hu
        | succ j => simp at hj)
    exact Runs.pure h.rc (v := u) (by simp [execOp, ho, h2, hr]) hru

/-- Cells of data that is told. -/
theorem rowCells_ok {w : World} {t : TypeId} {i : TypeInfo} {d : TypeDesc} {agg : Bool} {m : Mem} {b off : Nat} {ds : List D} {us : List Value} {bs : List Nat} (hi : P.info? t = some i) (hd : P.underlying t = some d)
    (ha : agg = aggT d) {av : AV} (hav : rowCells i.size agg ds = some av) (hr : RL m ds bs us) (hc : ∀ j u, us[j]? = some u → w.cell? ⟨b, off + j, none⟩ = some u) :
    ∃ v, (Instr.loadAt t (ptr b off)).run P w = .ok v w ∧ ∀ S' g', g'.m = m → RA S' g' av v := by
  have plain_nil : ∀ (d : D) (bs : List Nat) (v : Value), plainD d = true → R m d bs v → R m d [] v := by
    intro d bs v hp h
    cases d with
    | val x => simp only [R] at h ⊢; exact ⟨trivial, h.2⟩
    | sl own sz rows => cases own with
      | true => simp [plainD] at hp
      | false => simp only [R] at h ⊢; exact ⟨h.1, trivial, h.2.2⟩
    | rp cells => simp only [R] at h ⊢; exact ⟨trivial, h.2⟩
    | _ => simp [plainD] at hp
  have plains_nil : ∀ (ds : List D) (bs : List Nat) (us : List Value), plains ds = true → RL m ds bs us → RL m ds [] us := by
    intro ds
    induction ds with
    | nil => intro bs us _ h; simp only [RL] at h ⊢; exact ⟨trivial, h.2⟩
    | cons d ds ih =>
      intro bs us hp h
      simp only [plains, Bool.and_eq_true] at hp
      simp only [RL] at h ⊢
      obtain ⟨u, us', b1, b2, h1, _, h3, h4⟩ := h
      exact ⟨u, us', [], [], h1, rfl, plain_nil d b1 u hp.1 h3, ih b2 us' hp.2 h4⟩
  have hlen := RL_length _ _ _ hr
  cases agg with
  | true =>
    simp only [rowCells, if_true] at hav
    split at hav
    · rename_i hp
      obtain ⟨hp1, hp2⟩ := hp
      obtain rfl := Option.some.inj hav
      obtain ⟨b1, b2, us1, us2, _, rfl, k1, k2⟩ := RL_split (ds.take i.size) (ds.drop i.size) bs us (by rwa [List.take_append_drop])
      have hl1 : us1.length = i.size := by rw [RL_length _ _ _ k1]; simp; omega
      have hrun := run_loadVar (P := P) (w := w) (t := t) (b := b) (off := off) (us := us1) hi hd ha (fun _ => hl1) (fun e => by cases e)
        (fun j u hj => hc j u (by rw [List.getElem?_append_left ((List.getElem?_eq_some_iff.1 hj).1)]; exact hj))
      refine ⟨_, hrun, fun S' g' hg => ?_⟩
      simp only [if_true, RA]
      exact ⟨us1, rfl, RAs_pu (by rw [hg]; exact plains_nil _ _ _ hp2 k1)⟩
    · cases hav
  | false =>
    cases ds with
    | nil => simp [rowCells] at hav
    | cons d0 ds =>
      simp only [rowCells, Bool.false_eq_true, if_false] at hav
      split at hav
      · rename_i hp
        obtain rfl := Option.some.inj hav
        simp only [RL] at hr
        obtain ⟨u, us', b1, b2, rfl, _, h3, h4⟩ := hr
        have hrun := run_loadVar (P := P) (w := w) (t := t) (b := b) (off := off) (us := [u]) hi hd ha (fun e => by cases e) (fun _ => rfl)
          (fun j x hj => hc j x (by cases j with
            | zero => simpa using hj
            | succ j => simp at hj))
        refine ⟨_, hrun, fun S' g' hg => ?_⟩
        simp only [Bool.false_eq_true, if_false, RA]
        rw [hg]
        exact plain_nil _ _ _ hp h3
      · cases hav

theorem run_load_rp (h : Rel F E S g a.tmps) {t : TypeId} {i : TypeInfo} {d : TypeDesc} {agg : Bool} {x : Operand} {y : Opd} {cells : List D} (ho : o.op = .load t x) (hc : cOpd x = some y) (hi : P.info? t = some i) (hd : P.underlying t = some d)
    (ha : agg = aggT d) (he : ev E y = .pu (.rp cells)) {av : AV} (hav : rowCells i.size agg cells = some av) : Runs P F S g (execOp a.eval o) av ([] ++ S) := by
  have hv := opd_ok h hc
  rw [he] at hv
  simp only [RA, R] at hv
  obtain ⟨_, b, off, arr, t', fz, us, h1, h2, h3, h4, h5⟩ := hv
  obtain ⟨v, hr, hv⟩ := rowCells_ok (P := P) (m := g.m) hi hd ha hav h5 (fun j u hj => by rw [cell_at h3]; exact (h4 j u hj).1)
  exact Runs.pure h.rc (v := v) (by simp [execOp, ho, h1, hr]) (hv S g rfl)

theorem CellsAt.sub {arr : Array Value} {o : Nat} {a b c : List Value} (h : CellsAt arr o (a ++ (b ++ c))) : CellsAt arr (o + a.length) b := h.mid

/-- An element of an object's rows. -/
theorem obj_row (hrc : RC F S g) {id st : Nat} {own : Bool} {sz : Nat} {rows : List (List D)} (hs : sget S id = some (.slc st (.sl own sz rows))) {i : Nat} {row : List D} (hi : rows[i]? = some row)
    {b n c : Nat} (hloc : g.loc id = .slice (some ⟨b, 0, none⟩) n c) :
    ∃ arr t fz us bs, g.m.w.heap[b]? = some (.cells arr t fz) ∧ CellsAt arr (i * sz) us ∧ us.length = sz ∧ row.length = sz ∧ RL g.m row bs us := by
  have hne : rows ≠ [] := by rintro rfl; simp at hi
  obtain ⟨_, hr⟩ := hrc.obj id _ hs
  rw [hloc] at hr
  cases own with
  | true =>
    simp only [R] at hr
    obtain ⟨h0, hr⟩ := hr
    rcases hr with ⟨he, _⟩ | ⟨b', c', arr, t, us, bs', h1, h2, h3, h4, h5, h6, h7, h8, h9⟩
    · exact absurd he hne
    · obtain ⟨b1, b2, b3, u1, u2, u3, _, rfl, k3, k4, k5, k6, k7⟩ := RLL_row rows _ _ h0 h9 i row hi
      simp only [Value.slice.injEq, Option.some.injEq, Addr.mk.injEq] at h2
      refine ⟨arr, t, (0, 0), u2, b2, by rw [h2.1.1]; exact h5, ?_, k4, h0 row (List.mem_of_getElem? hi), k6⟩
      have := h7.mid
      rw [k3] at this
      simpa using this
  | false =>
    simp only [R] at hr
    obtain ⟨h0, _, A, c', h2, h3, hr⟩ := hr
    rcases hr with he | ⟨b', o', arr, t, fz, us, rfl, h5, h6, h7, h8, h9⟩
    · exact absurd he hne
    · obtain ⟨b1, b2, b3, u1, u2, u3, _, rfl, k3, k4, k5, k6, k7⟩ := RLL_row rows _ _ h0 h9 i row hi
      simp only [Value.slice.injEq, Option.some.injEq, Addr.mk.injEq] at h2
      refine ⟨arr, t, fz, u2, b2, by rw [h2.1.1]; exact h6, ?_, k4, h0 row (List.mem_of_getElem? hi), k6⟩
      have := h7.mid
      rw [k3, ← h2.1.2.1] at this
      simpa using this

theorem run_load_ep (h : Rel F E S g a.tmps) {t : TypeId} {i : TypeInfo} {d : TypeDesc} {agg : Bool} {x : Operand} {y : Opd} {id st n ix j : Nat} {own : Bool} {sz : Nat} {rows : List (List D)} {row : List D} (ho : o.op = .load t x) (hc : cOpd x = some y) (hi : P.info? t = some i) (hd : P.underlying t = some d)
    (ha : agg = aggT d) (he : ev E y = .ep id st n ix j) (hs : sget S id = some (.slc st (.sl own sz rows))) (hn : n = rows.length) (hrow : rows[ix]? = some row) {av : AV}
    (hav : rowCells i.size agg (row.drop j) = some av) : Runs P F S g (execOp a.eval o) av ([] ++ S) := by
  have hv := opd_ok h hc
  rw [he] at hv
  simp only [RA] at hv
  obtain ⟨st', d', h1, h2, h3⟩ := hv
  rw [hs] at h1
  simp only [Option.some.injEq, OB.slc.injEq] at h1
  obtain ⟨rfl, rfl⟩ := h1
  obtain ⟨b, c, h4, h5⟩ := (h3 rfl).2 hn
  obtain ⟨arr, t', fz, us, bs, k1, k2, k3, k4, k5⟩ := obj_row h.rc hs hrow h4
  obtain ⟨b1, b2, us1, us2, _, rfl, q1, q2⟩ := RL_split (row.take j) (row.drop j) bs us (by rwa [List.take_append_drop])
  have hj : row.drop j ≠ [] ∨ agg = true := by
    cases agg with
    | true => exact .inr rfl
    | false => left; rintro e; rw [e] at hav; simp [rowCells] at hav
  by_cases hlt : j ≤ row.length
  · have hl1 : us1.length = j := by rw [RL_length _ _ _ q1]; simp; omega
    obtain ⟨v, hr, hv⟩ := rowCells_ok (P := P) (m := g.m) (b := b) (off := ix * sz + j) hi hd ha hav q2
      (fun q u hq => by rw [cell_at k1]; have := k2 (j + q) u (by rw [List.getElem?_append_right (by omega), hl1]; simpa using hq); rw [Nat.add_assoc]; exact this.1)
    exact Runs.pure h.rc (v := v) (by simp [execOp, ho, h5, D.szOf, hr]) (hv S g rfl)
  · have e : row.drop j = [] := List.drop_of_length_le (by omega)
    rw [e] at hav q2
    simp only [RL] at q2
    obtain ⟨_, rfl⟩ := q2
    obtain ⟨v, hr, hv⟩ := rowCells_ok (P := P) (w := g.m.w) (m := g.m) (b := b) (off := ix * sz + j) (us := []) (bs := []) hi hd ha hav (by simp [RL]) (fun q u hq => by simp at hq)
    exact Runs.pure h.rc (v := v) (by simp [execOp, ho, h5, D.szOf, hr]) (hv S g rfl)

/-- A store into a variable of the frame. -/
theorem putAt_set {α : Type} : ∀ (as l : List α) (o : Nat), o + as.length ≤ l.length → putAt l o as = l.take o ++ as ++ l.drop (o + as.length)
  | [], l, o, _ => by simp [putAt]
  | a :: as, l, o, h => by
    simp only [List.length_cons] at h
    rw [putAt, putAt_set as (l.set o a) (o + 1) (by simp; omega)]
    have h1 : (l.set o a).take (o + 1) = l.take o ++ [a] := by
      have hl : (l.take o).length = o := by simp; omega
      rw [List.take_set, List.take_succ_eq_append_getElem (by omega), List.set_append_right _ _ (by omega), hl]
      simp
    have h2 : (l.set o a).drop (o + 1 + as.length) = l.drop (o + (as.length + 1)) := by
      rw [List.drop_set_of_lt (by omega)]; congr 1; omega
    rw [h1, h2]; simp
theorem putAt_length {α : Type} : ∀ (as l : List α) (o : Nat), (putAt l o as).length = l.length
  | [], l, o => rfl
  | a :: as, l, o => by rw [putAt, putAt_length]; simp
theorem RAs_putAt {S : Store} {g : G} : ∀ {as l : List AV} {vs us : List Value} (o : Nat), RAs S g l us → RAs S g as vs → RAs S g (putAt l o as) (putAt us o vs)
  | [], l, vs, us, o, h, k => by simp only [RAs] at k; subst k; exact h
  | a :: as, l, vs, us, o, h, k => by
    simp only [RAs] at k
    obtain ⟨v, vs', rfl, k1, k2⟩ := k
    exact RAs_putAt (o + 1) (RAs_set h o k1) k2

theorem setRow_size (w : World) (b : Nat) (cs : Array Value) : (w.setRow b cs).heap.size = w.heap.size := by simp [World.setRow]

theorem run_store_box (h : Rel F E S g a.tmps) {t : TypeId} {i : TypeInfo} {x z : Operand} {y u : Opd} {id off : Nat} {cells : List AV} (ho : o.op = .store t x z) (hc : cOpd x = some y) (hcz : cOpd z = some u) (hi : P.info? t = some i)
    (he : ev E y = .ob id off) (hs : sget S id = some (.box cells)) (hn : (cellsOf (ev E u)).length = i.size) (hb : off + i.size ≤ cells.length) (hok : okCells S (cellsOf (ev E u))) :
    Runs P F S g (execOp a.eval o) .un ([(id, .box (putAt cells off (cellsOf (ev E u))))] ++ S) := by
  have hv := opd_ok h hc
  rw [he] at hv
  simp only [RA] at hv
  obtain ⟨_, b, h1, h2⟩ := hv
  obtain ⟨b', t', us, k1, k2, k3, k4, k5, k6⟩ := h.rc.obj id _ hs
  obtain rfl : b' = b := by rw [h1] at k1; simpa [ptr] using k1.symm
  obtain ⟨vs', q1, q2, q3⟩ := cellsOf_ok h.rc hok (opd_ok h hcz)
  have hl := RAs_length _ _ k5
  have hlv := RAs_length _ _ q2
  have hst := run_storeCells_at (P := P) b' off t' vs' 0 us.toArray g.m.w k4 (by simp; omega) (fun v hv => by rw [← cellV_eq]; exact q3 v hv)
  have hrun : (execOp a.eval o).run P g.m.w = .ok .skip (g.m.w.setRow b' (putAt us off vs').toArray) := by
    rw [putAt_set vs' us off (by omega)]
    simp only [Nat.add_zero] at hst
    simp [execOp, ho, h2, Instr.storeAt, Instr.sureAddr, ptr, storeVar, sizeOf, typeInfo, hi, q1, hlv, hn, hst]
  let g' : G := ⟨g.loc, g.bl, ⟨g.m.w.setRow b' (putAt us off vs').toArray, g.m.im⟩⟩
  have hother : ∀ k, k ≠ b' → g'.m.w.heap[k]? = g.m.w.heap[k]? := fun k hk => setRow_other g.m.w b' k _ hk
  have hbb := h.rc.range id (by rw [hs]; simp) b' (by rw [k2]; simp)
  have hle : MemLe g.m g'.m := ⟨by simp [g', setRow_size], fun k hk => ⟨hk, hother k (fun e => by rw [e, k3] at hk; cases hk)⟩⟩
  have htr : TrS S g ((id, .box (putAt cells off (cellsOf (ev E u)))) :: S) g' := ⟨hle, fun j oj hj => by
    by_cases hji : j = id
    · subst hji
      rw [hs] at hj
      obtain rfl := Option.some.inj hj
      exact ⟨⟨_, sget_cons_eq, rfl⟩, rfl⟩
    · exact TrO.same (by rw [sget_cons_ne hji]; exact hj) rfl⟩
  refine ⟨undef, g', .inr ⟨hrun, rfl⟩, ?_, by simp only [RA], htr⟩
  refine h.rc.update (· = id) htr ⟨fun k hk => h.rc.wf k (by simpa [g', setRow_size] using hk), by simp [g', setRow_size], fun k hk hB => ⟨hother k (fun e => by
      subst e
      rcases hbb.2 with h' | h'
      · omega
      · exact hB h'), rfl⟩, rfl, rfl, rfl⟩ (fun j hj => ⟨sget_cons_ne hj, rfl, rfl⟩) ?_ ?_ ?_
  · intro j hj hn' k hk
    exact ⟨rfl, hother k (fun e => by subst e; exact h.rc.disj j id hj hn' (by rw [hs]; simp) k hk (by rw [k2]; simp))⟩
  · rintro j oj rfl hj
    rw [List.cons_append, List.nil_append, sget_cons_eq] at hj
    obtain rfl := Option.some.inj hj
    refine ⟨⟨b', t', putAt us off vs', h1, k2, k3, setRow_heap g.m.w b' us.toArray _ t' _ k4, RAs_tr htr _ _ (RAs_putAt off k5 q2), ?_⟩, h.rc.nodup _ (by rw [hs]; simp), fun k hk => ?_⟩
    · intro v hv
      rw [putAt_set vs' us off (by omega)] at hv
      simp only [List.mem_append] at hv
      rcases hv with (hv | hv) | hv
      · exact k6 v (List.mem_of_mem_take hv)
      · exact q3 v hv
      · exact k6 v (List.mem_of_mem_drop hv)
    · have := h.rc.range _ (by rw [hs]; simp) k hk
      exact ⟨by simpa [g', setRow_size] using this.1, this.2⟩
  · rintro i' j rfl hij hi' hj k hk
    rw [List.cons_append, List.nil_append, sget_cons_ne (Ne.symm hij)] at hj
    exact h.rc.disj _ j hij (by rw [hs]; simp) hj k hk

end

end Go.Proofs.YtcaemkcglflmnaaDoor.Vm
