/-
  The abstract machine, part N: the operations of a region, in the order of the text and in any order that the program's edges leave open. Conditions: none.
-/
import Derived.Test.YtcaemkcglflmnaaDoorVmM
namespace Go.Proofs.YtcaemkcglflmnaaDoor.Vm
open Go Go.RowKit
variable [Tbl]
set_option linter.unusedSimpArgs false
set_option linter.unusedVariables false
set_option linter.unusedSectionVars false

structure It where
  i : Nat
  o : CO
  rd : List Nat
  av : AV
  ws : Store

abbrev St := Env × Store
def It.ap (x : It) (s : St) : St := (eput s.1 x.o.dst x.av, x.ws ++ s.2)
def Eqv (s t : St) : Prop := (∀ n, eget s.1 n = eget t.1 n) ∧ ∀ i, sget s.2 i = sget t.2 i
def It.ok (P : Program) (x : It) (s : St) : Prop := ARel P s.1 s.2 x.o x.rd x.av x.ws
def Trace (P : Program) : List It → St → Prop
  | [], _ => True
  | x :: l, s => x.ok P s ∧ Trace P l (x.ap s)
def fin : List It → St → St
  | [], s => s
  | x :: l, s => fin l (x.ap s)

structure Indep (x y : It) : Prop where
  a : ∀ d, x.o.dst = some d → y.o.dst ≠ some d ∧ d ∉ y.o.slots
  b : ∀ d, y.o.dst = some d → d ∉ x.o.slots
  c : ∀ i ∈ x.ws.map (·.1), i ∉ y.rd ++ y.ws.map (·.1)
  d : ∀ i ∈ y.ws.map (·.1), i ∉ x.rd ++ x.ws.map (·.1)

theorem sget_over : ∀ {ws : Store} {i : Nat}, i ∈ ws.map (·.1) → ∀ S S' : Store, sget (ws ++ S) i = sget (ws ++ S') i
  | [], i, h => by simp at h
  | (t, o) :: ws, i, h => fun S S' => by
    by_cases he : i = t
    · subst he; rw [List.cons_append, List.cons_append, sget_cons_eq, sget_cons_eq]
    · rw [List.cons_append, List.cons_append, sget_cons_ne he, sget_cons_ne he]
      exact sget_over (by simpa [he] using h) S S'
theorem sget_past : ∀ {ws : Store} {i : Nat}, i ∉ ws.map (·.1) → ∀ S : Store, sget (ws ++ S) i = sget S i
  | [], i, _ => fun S => rfl
  | (t, o) :: ws, i, h => fun S => by
    have he : i ≠ t := fun e => h (by simp [e])
    rw [List.cons_append, sget_cons_ne he]
    exact sget_past (fun hm => h (by simp [hm])) S
theorem eget_eput (E : Env) (dst : Option Nat) (a : AV) (t : Nat) : eget (eput E dst a) t = if dst = some t then a else eget E t := by
  cases dst with
  | none => simp [eput]
  | some d => simp [eput, eget]

theorem Eqv.refl (s : St) : Eqv s s := ⟨fun _ => rfl, fun _ => rfl⟩
theorem Eqv.symm {s t : St} (h : Eqv s t) : Eqv t s := ⟨fun n => (h.1 n).symm, fun i => (h.2 i).symm⟩
theorem Eqv.trans {s t u : St} (h : Eqv s t) (k : Eqv t u) : Eqv s u := ⟨fun n => (h.1 n).trans (k.1 n), fun i => (h.2 i).trans (k.2 i)⟩
theorem Eqv.ap {s t : St} (h : Eqv s t) (x : It) : Eqv (x.ap s) (x.ap t) := by
  refine ⟨fun n => ?_, fun i => ?_⟩
  · simp only [It.ap, eget_eput, h.1]
  · simp only [It.ap]
    by_cases hi : i ∈ x.ws.map (·.1)
    · exact sget_over hi _ _
    · rw [sget_past hi, sget_past hi]; exact h.2 i
theorem It.ok.eqv {P : Program} {x : It} {s t : St} (h : x.ok P s) (e : Eqv s t) : x.ok P t := ARel.loc h (fun n _ => (e.1 n).symm) fun i _ => (e.2 i).symm
theorem Trace.eqv {P : Program} : ∀ {l : List It} {s t : St}, Trace P l s → Eqv s t → Trace P l t ∧ Eqv (fin l s) (fin l t)
  | [], s, t, _, e => ⟨trivial, e⟩
  | x :: l, s, t, h, e => by
    obtain ⟨h1, h2⟩ := Trace.eqv h.2 (e.ap x)
    exact ⟨⟨h.1.eqv e, h1⟩, h2⟩

theorem commute {P : Program} {a b : It} {s : St} (h1 : a.ok P s) (h2 : b.ok P (a.ap s)) (hi : Indep a b) : b.ok P s ∧ a.ok P (b.ap s) ∧ Eqv (b.ap (a.ap s)) (a.ap (b.ap s)) := by
  refine ⟨ARel.loc h2 (fun t ht => ?_) (fun i hm => ?_), ARel.loc h1 (fun t ht => ?_) (fun i hm => ?_), fun t => ?_, fun i => ?_⟩
  · simp only [It.ap, eget_eput]
    rw [if_neg]
    intro e
    exact (hi.a t e).2 ht
  · exact (sget_past (fun h => hi.c i h hm) _).symm
  · simp only [It.ap, eget_eput]
    rw [if_neg]
    intro e
    exact hi.b t e ht
  · exact sget_past (fun h => hi.d i h hm) _
  · simp only [It.ap, eget_eput]
    by_cases h1 : a.o.dst = some t
    · rw [if_neg (hi.a t h1).1, if_pos h1, if_pos h1]
    · rw [if_neg h1, if_neg h1]
  · simp only [It.ap]
    by_cases hA : i ∈ a.ws.map (·.1)
    · have hB : i ∉ b.ws.map (·.1) := fun h => hi.c i hA (by simp only [List.mem_append]; exact .inr h)
      rw [sget_past hB]
      exact sget_over hA _ _
    · rw [sget_past (ws := a.ws) hA]
      by_cases hB : i ∈ b.ws.map (·.1)
      · exact sget_over hB _ _
      · rw [sget_past hB, sget_past hB, sget_past hA]

theorem front {P : Program} {x : It} {B : List It} : ∀ {A : List It} {s : St}, Trace P (A ++ x :: B) s → (∀ a ∈ A, Indep a x) → x.ok P s ∧ Trace P (A ++ B) (x.ap s) ∧ Eqv (fin (A ++ x :: B) s) (fin (A ++ B) (x.ap s))
  | [], s, h, _ => ⟨h.1, h.2, Eqv.refl _⟩
  | a :: A, s, h, hi => by
    obtain ⟨h1, h2⟩ := h
    obtain ⟨k1, k2, k3⟩ := front h2 (fun b hb => hi b (by simp [hb]))
    obtain ⟨q1, q2, q3⟩ := commute h1 k1 (hi a (by simp))
    obtain ⟨r1, r2⟩ := k2.eqv q3
    exact ⟨q1, ⟨q2, r1⟩, k3.trans r2⟩

theorem Eqv.tr {s t : St} (e : Eqv s t) (g : G) : TrS s.2 g t.2 g := ⟨MemLe.refl _, fun id o ho => TrO.same (by rw [← e.2]; exact ho) rfl⟩
theorem RelP.eqv {F : Fr} {pn : List (Nat × Value)} {s t : St} {g : G} {tm : Array Value} (hh : RelP F pn s.1 s.2 g tm) (e : Eqv s t) : RelP F pn t.1 t.2 g tm := by
  refine ⟨?_, hh.pin.tr (e.tr g)⟩
  have h := hh.rel
  have htr : TrS s.2 g t.2 g := ⟨MemLe.refl _, fun id o ho => TrO.same (by rw [← e.2]; exact ho) rfl⟩
  refine ⟨fun n => ?_, h.rc.update (fun _ => False) htr ⟨h.rc.wf, Nat.le_refl _, fun _ _ _ => ⟨rfl, rfl⟩, rfl, rfl, rfl⟩ (fun i _ => ⟨(e.2 i).symm, rfl, rfl⟩) (fun i _ _ b _ => ⟨rfl, rfl⟩) (fun _ _ hc => hc.elim) (fun _ _ hc => hc.elim)⟩
  rw [← e.1]
  exact RA_tr htr _ _ (h.env n)

/-- The world counts its draws; nothing else turns. -/
def G.draw (g : G) : G := ⟨g.loc, g.bl, ⟨{ g.m.w with drawn := g.m.w.drawn + 1 }, g.m.im⟩⟩
theorem RelP.draw {F : Fr} {pn : List (Nat × Value)} {E : Env} {S : Store} {g : G} {tm : Array Value} (hh : RelP F pn E S g tm) : RelP F pn E S g.draw tm := by
  have h := hh.rel
  have htr : TrS S g S g.draw := ⟨⟨Nat.le_refl _, fun b hb => ⟨hb, rfl⟩⟩, fun id o ho => TrO.same ho rfl⟩
  refine ⟨?_, hh.pin.tr htr⟩
  exact ⟨fun n => RA_tr htr _ _ (h.env n), h.rc.update (fun _ => False) htr ⟨h.rc.wf, Nat.le_refl _, fun _ _ _ => ⟨rfl, rfl⟩, rfl, rfl, rfl⟩ (fun i _ => ⟨rfl, rfl, rfl⟩) (fun i _ _ b _ => ⟨rfl, rfl⟩) (fun _ _ hc => hc.elim) (fun _ _ hc => hc.elim)⟩

def reach (ops : Array Oper) : Nat → Nat → Nat → Bool
  | 0, _, _ => false
  | n + 1, j, i => match ops[j]? with
    | some o => o.after.toList.any fun e => Region.binds .any e && (e.on == i || reach ops n e.on i)
    | none => false

def Closed (ops : Array Oper) (listed : Array Bool) : Prop := ∀ j o, ops[j]? = some o → listed.getD j false = true → ∀ e ∈ o.after, Region.binds .any e = true → listed.getD e.on false = true

theorem reach_listed {ops : Array Oper} {listed : Array Bool} (hc : Closed ops listed) : ∀ {n j i : Nat} {o : Oper}, ops[j]? = some o → (∀ e ∈ o.after, Region.binds .any e = true → listed.getD e.on false = true) → reach ops n j i = true → listed.getD i false = true
  | 0, j, i, o, _, _, h => by simp [reach] at h
  | n + 1, j, i, o, ho, ha, h => by
    simp only [reach, ho, List.any_eq_true, Bool.and_eq_true, Bool.or_eq_true, beq_iff_eq, Array.mem_toList_iff] at h
    obtain ⟨e, he, hb, h⟩ := h
    have hl := ha e he hb
    rcases h with rfl | h
    · exact hl
    · cases ho' : ops[e.on]? with
      | none => cases n <;> simp [reach, ho'] at h
      | some o' => exact reach_listed hc ho' (fun e' he' hb' => hc _ _ ho' hl e' he' hb') h

theorem any_ok {P : Program} {F : Fr} {pn : List (Nat × Value)} {n : Nat} {ops : Array Oper} {Q : Exit → Act → World → Prop} {df : List Deferred} (back : ∀ j o, ops[j]? = some o → ∀ e ∈ o.after, Region.binds .any e = true → e.on < j) :
    ∀ (fuel : Nat) (l : List It) (listed : Array Bool) (s : St) (a : Act) (g : G), Trace P l s → RelP F pn s.1 s.2 g a.tmps → a.tmps.size = n → a.defers = df →
      (∀ x ∈ l, ∃ o, ops[x.i]? = some o ∧ cOper P n ops o = some x.o) → l.Pairwise (fun x y => x.i < y.i ∧ (reach ops ops.size y.i x.i = true ∨ Indep x y)) → (∀ j, listed.getD j true = false ↔ ∃ x ∈ l, x.i = j) → Closed ops listed → listed.size = ops.size → l.length ≤ fuel →
      (∀ a' g', RelP F pn (fin l s).1 (fin l s).2 g' a'.tmps → a'.tmps.size = n → a'.defers = df → Q .normal a' g'.m.w) → wpAny P .any ops Q fuel listed a g.m.w := by
  intro fuel
  induction fuel with
  | zero =>
    intro l listed s a g htr hrel hn hdf hops hpw hun hcl hsz hlen hQ
    obtain rfl : l = [] := List.eq_nil_of_length_eq_zero (by omega)
    refine ⟨?_, hQ a g hrel hn hdf⟩
    apply List.eq_nil_iff_forall_not_mem.2
    intro j hj
    have := (hun j).1 (mem_ready.1 hj).1
    simp at this
  | succ fuel ih =>
    intro l listed s a g htr hrel hn hdf hops hpw hun hcl hsz hlen hQ
    refine ⟨fun hr => ?_, fun i hi => ?_⟩
    · cases l with
      | nil => exact hQ a g hrel hn hdf
      | cons x l =>
        exfalso
        obtain ⟨o, ho, _⟩ := hops x (by simp)
        have hlt : x.i < ops.size := (Array.getElem?_eq_some_iff.1 ho).1
        have : x.i ∈ Region.ready .any ops listed := by
          refine mem_ready.2 ⟨(hun x.i).2 ⟨x, by simp, rfl⟩, o, ho, fun e he hb => ?_⟩
          have hlt2 := back _ _ ho e he hb
          cases hl : listed.getD e.on true with
          | true =>
            have hin : e.on < listed.size := by omega
            simpa [hin] using hl
          | false =>
            obtain ⟨y, hy, hye⟩ := (hun e.on).1 hl
            rcases List.mem_cons.1 hy with rfl | hy
            · omega
            · have := ((List.pairwise_cons.1 hpw).1 y hy).1
              omega
        rw [hr] at this
        simp at this
    · obtain ⟨hi1, o, ho, hi2⟩ := mem_ready.1 hi
      obtain ⟨x, hx, rfl⟩ := (hun i).1 hi1
      obtain ⟨A, B, rfl⟩ := List.append_of_mem hx
      have hlt : x.i < listed.size := by rw [hsz]; exact (Array.getElem?_eq_some_iff.1 ho).1
      have hpw' := List.pairwise_append.1 hpw
      have hind : ∀ y ∈ A, Indep y x := by
        intro y hy
        rcases (hpw'.2.2 y hy x (by simp)).2 with h | h
        · exfalso
          have h1 := reach_listed hcl ho hi2 h
          have h2 := (hun y.i).2 ⟨y, by simp [hy], rfl⟩
          have hyl : y.i < listed.size := by
            rcases Nat.lt_or_ge y.i listed.size with h' | h'
            · exact h'
            · simp [Array.getElem?_eq_none h'] at h1
          simp [hyl] at h1 h2
          rw [h1] at h2; cases h2
        · exact h
      obtain ⟨k1, k2, k3⟩ := front htr hind
      obtain ⟨o', ho', hco⟩ := hops x (by simp)
      obtain rfl : o = o' := by rw [ho] at ho'; exact Option.some.inj ho'
      have hne : ∀ y ∈ A ++ B, y.i ≠ x.i := by
        intro y hy
        rcases List.mem_append.1 hy with hy | hy
        · have := (hpw'.2.2 y hy x (by simp)).1; omega
        · have := ((List.pairwise_cons.1 hpw'.2.1).1 y hy).1; omega
      refine wpOp_ok hrel hn ho hco k1 fun a' g' r1 r2 r3 => ih (A ++ B) _ _ a' g' k2 r1 r2 (r3.trans hdf) (fun y hy => hops y ?_) ?_ (fun j => ?_) ?_ (by simp [hsz]) ?_ ?_
      · rcases List.mem_append.1 hy with hy | hy <;> simp [hy]
      · exact List.pairwise_append.2 ⟨hpw'.1, (List.pairwise_cons.1 hpw'.2.1).2, fun y hy z hz => hpw'.2.2 y hy z (by simp [hz])⟩
      · by_cases hj : j = x.i
        · subst hj
          constructor
          · intro h; simp [hlt] at h
          · rintro ⟨y, hy, he⟩; exact absurd he (hne y hy)
        · rw [getD_set_ne true (Ne.symm hj), hun j]
          constructor
          · rintro ⟨y, hy, he⟩
            refine ⟨y, ?_, he⟩
            rcases List.mem_append.1 hy with hy | hy
            · simp [hy]
            · rcases List.mem_cons.1 hy with rfl | hy
              · exact absurd he.symm hj
              · simp [hy]
          · rintro ⟨y, hy, he⟩
            refine ⟨y, ?_, he⟩
            rcases List.mem_append.1 hy with hy | hy <;> simp [hy]
      · intro j oj hoj hlj e he hb
        by_cases hj : j = x.i
        · subst hj
          obtain rfl : o = oj := by rw [ho] at hoj; exact Option.some.inj hoj
          exact getD_set_true (hi2 e he hb)
        · rw [getD_set_ne false (Ne.symm hj)] at hlj
          exact getD_set_true (hcl _ _ hoj hlj e he hb)
      · simp at hlen ⊢; omega
      · intro a'' g'' q1 q2 q3
        exact hQ a'' g'' (q1.eqv k3.symm) q2 q3

theorem list_ok {P : Program} {F : Fr} {pn : List (Nat × Value)} {n : Nat} {ops : Array Oper} {Q : Exit → Act → World → Prop} {df : List Deferred} :
    ∀ (l : List It) (s : St) (a : Act) (g : G), Trace P l s → RelP F pn s.1 s.2 g a.tmps → a.tmps.size = n → a.defers = df → (∀ x ∈ l, ∃ o, ops[x.i]? = some o ∧ cOper P n ops o = some x.o) →
      (∀ a' g', RelP F pn (fin l s).1 (fin l s).2 g' a'.tmps → a'.tmps.size = n → a'.defers = df → Q .normal a' g'.m.w) → wpOps P ops Q (l.map (·.i)) a g.m.w
  | [], s, a, g, _, hrel, hn, hdf, _, hQ => hQ a g hrel hn hdf
  | x :: l, s, a, g, htr, hrel, hn, hdf, hops, hQ => by
    obtain ⟨o, ho, hco⟩ := hops x (by simp)
    rw [List.map_cons, wpOps_cons]
    exact wpOp_ok hrel hn ho hco htr.1 fun a' g' r1 r2 r3 => list_ok l _ a' g' htr.2 r1 r2 (r3.trans hdf) (fun y hy => hops y (by simp [hy])) hQ

end Go.Proofs.YtcaemkcglflmnaaDoor.Vm
