/-
  The abstract machine, part O: compact code, what it makes of abstract states, and that the machine's code does so. Conditions: none.
-/
import Derived.Test.YtcaemkcglflmnaaDoorVmN
namespace Go.Proofs.YtcaemkcglflmnaaDoor.Vm
open Go Go.RowKit
variable [Tbl]
set_option linter.unusedSimpArgs false
set_option linter.unusedVariables false
set_option linter.unusedSectionVars false

structure Fp where
  sl : List Nat
  dst : Option Nat
  rd : List Nat
  wr : List Nat
  deriving Inhabited

inductive CC where
  | skip
  | reg (ops : List CO)
  | drw (ops : List CO) (un : List (Nat × Nat))
  | seq (a b : CC)
  | cond (c : Opd) (a b : CC)
  | block (id : Nat) (a : CC)
  | loop (a : CC)
  | exit (id : Nat)
  | ret
  deriving Inhabited

inductive Ex where
  | normal
  | exit (id : Nat)
  | ret

def It.fp (x : It) : Fp := ⟨x.o.slots, x.o.dst, x.rd, x.ws.map (·.1)⟩

def apartB (a b : List Nat) : Bool := a.all fun i => !b.contains i
def indepB (x y : Fp) : Bool :=
  (match x.dst with | some d => (match y.dst with | some e => !(d == e) | none => true) && !y.sl.contains d | none => true) &&
  (match y.dst with | some d => !x.sl.contains d | none => true) &&
  apartB x.wr (y.rd ++ y.wr) && apartB y.wr (x.rd ++ x.wr)
def indepAll (fps : List Fp) : List (Nat × Nat) → Bool
  | [] => true
  | (i, j) :: r => (match fps[i]?, fps[j]? with | some x, some y => indepB x y | _, _ => false) && indepAll fps r

theorem apartB_ok {a b : List Nat} (h : apartB a b = true) : ∀ i ∈ a, i ∉ b := by
  intro i hi hb
  have := List.all_eq_true.1 h i hi
  simp [hb] at this
theorem indepB_ok {x y : It} (h : indepB x.fp y.fp = true) : Indep x y := by
  simp only [indepB, It.fp, Bool.and_eq_true] at h
  obtain ⟨⟨⟨h1, h2⟩, h3⟩, h4⟩ := h
  refine ⟨fun d hd => ?_, fun d hd => ?_, apartB_ok h3, apartB_ok h4⟩
  · rw [hd] at h1
    simp only [Bool.and_eq_true] at h1
    refine ⟨fun he => ?_, by simpa using h1.2⟩
    rw [he] at h1
    simp at h1
  · rw [hd] at h2
    simpa using h2
theorem indepAll_ok {fps : List Fp} : ∀ {un : List (Nat × Nat)}, indepAll fps un = true → ∀ q ∈ un, ∃ x y, fps[q.1]? = some x ∧ fps[q.2]? = some y ∧ indepB x y = true
  | [], _, q, hq => by simp at hq
  | (i, j) :: r, h, q, hq => by
    simp only [indepAll, Bool.and_eq_true] at h
    rcases List.mem_cons.1 hq with rfl | hq
    · split at h
      · rename_i x y hx hy; exact ⟨x, y, hx, hy, h.1⟩
      · simp at h
    · exact indepAll_ok h.2 q hq

/-! ### code -/
/-- An abstract state that may stand for another, with boxes that must stay. -/
def Weak (pn : List Nat) (s t : St) : Prop := ∀ (F : Fr) (pv : List (Nat × Value)) (g : G) (tm : Array Value), pv.map (·.1) = pn → RelP F pv s.1 s.2 g tm → ∃ g', g'.m.w = g.m.w ∧ RelP F pv t.1 t.2 g' tm

def thenX (Q : Ex → Env → Store → Prop) (K : Env → Store → Prop) : Ex → Env → Store → Prop
  | .normal => K
  | x => Q x
def blockX (id : Nat) (Q : Ex → Env → Store → Prop) : Ex → Env → Store → Prop
  | .exit i => if i = id then Q .normal else Q (.exit i)
  | x => Q x

def wpx (P : Program) (pn : List Nat) : CC → (Ex → Env → Store → Prop) → Env → Store → Prop
  | .skip, Q, E, S => Q .normal E S
  | .reg ops, Q, E, S => ∃ its : List It, its.map (·.o) = ops ∧ its.map (·.i) = List.range' 0 ops.length ∧ Trace P its (E, S) ∧ Q .normal (fin its (E, S)).1 (fin its (E, S)).2
  | .drw ops un, Q, E, S => ∃ its : List It, its.map (·.o) = ops ∧ its.map (·.i) = List.range' 0 ops.length ∧ Trace P its (E, S) ∧ indepAll (its.map It.fp) un = true ∧ Q .normal (fin its (E, S)).1 (fin its (E, S)).2
  | .seq a b, Q, E, S => wpx P pn a (thenX Q fun E' S' => ∃ s : St, Weak pn (E', S') s ∧ wpx P pn b Q s.1 s.2) E S
  | .cond c a b, Q, E, S => (match ev E c with
    | .pu (.val (.bool t)) => (t = true → ∃ s : St, Weak pn (E, S) s ∧ wpx P pn a Q s.1 s.2) ∧ (t = false → ∃ s : St, Weak pn (E, S) s ∧ wpx P pn b Q s.1 s.2)
    | _ => False)
  | .block id a, Q, E, S => wpx P pn a (blockX id Q) E S
  | .loop a, Q, E, S => ∃ (ι : Type) (T : ι → St) (μ : ι → Nat) (i₀ : ι), Weak pn (E, S) (T i₀) ∧ ∀ i, wpx P pn a (thenX Q fun E' S' => ∃ i', μ i' < μ i ∧ Weak pn (E', S') (T i')) (T i).1 (T i).2
  | .exit id, Q, E, S => Q (.exit id) E S
  | .ret, Q, E, S => Q .ret E S

def cOpers (P : Program) (n : Nat) (ops : Array Oper) : List Oper → Option (List CO)
  | [] => some []
  | o :: l => match cOper P n ops o, cOpers P n ops l with | some c, some r => some (c :: r) | _, _ => none
def pairsOf (ops : Array Oper) (n : Nat) : List (Nat × Nat) := (List.range n).flatMap fun j => (List.range j).filterMap fun i => if reach ops n j i then none else some (i, j)
def backB (ops : Array Oper) : Nat → List Oper → Bool
  | _, [] => true
  | j, o :: l => (o.after.toList.all fun e => !Region.binds .any e || decide (e.on < j)) && backB ops (j + 1) l
def cCode (P : Program) (n : Nat) : Code → Option CC
  | .skip => some .skip
  | .region _ ops false => (cOpers P n ops ops.toList).map .reg
  | .region _ ops true => match cOpers P n ops ops.toList with
    | some l => if backB ops 0 ops.toList then some (.drw l (pairsOf ops ops.size)) else none
    | none => none
  | .seq a b => match cCode P n a, cCode P n b with | some x, some y => some (.seq x y) | _, _ => none
  | .cond c a b => match cOpd c, cCode P n a, cCode P n b with | some z, some x, some y => some (.cond z x y) | _, _, _ => none
  | .block id a => (cCode P n a).map (.block id)
  | .loop a => (cCode P n a).map .loop
  | .exit id => some (.exit id)
  | .ret => some .ret
  | _ => none

theorem cOpers_ok {P : Program} {n : Nat} {ops : Array Oper} : ∀ {l : List Oper} {r : List CO}, cOpers P n ops l = some r → r.length = l.length ∧ ∀ (j : Nat) o c, l[j]? = some o → r[j]? = some c → cOper P n ops o = some c
  | [], r, h => by simp only [cOpers, Option.some.injEq] at h; subst h; simp
  | o :: l, r, h => by
    simp only [cOpers] at h
    split at h
    · rename_i c r' h1 h2
      obtain rfl := Option.some.inj h
      obtain ⟨k1, k2⟩ := cOpers_ok h2
      refine ⟨by simp [k1], fun j o' c' hj hj' => ?_⟩
      cases j with
      | zero => simp at hj hj'; subst hj; subst hj'; exact h1
      | succ j => simp at hj hj'; exact k2 j _ _ hj hj'
    · cases h
theorem backB_ok {ops : Array Oper} : ∀ {l : List Oper} {k : Nat}, backB ops k l = true → ∀ (j : Nat) o, l[j]? = some o → ∀ e ∈ o.after, Region.binds .any e = true → e.on < k + j
  | [], k, _, j, o, hj => by simp at hj
  | o' :: l, k, h, j, o, hj => by
    simp only [backB, Bool.and_eq_true] at h
    cases j with
    | zero =>
      simp at hj; subst hj
      intro e he hb
      have := List.all_eq_true.1 h.1 e (by simpa using he)
      simpa [hb] using this
    | succ j =>
      simp at hj
      intro e he hb
      have := backB_ok h.2 j o hj e he hb
      omega

theorem its_ops {P : Program} {n : Nat} {ops : Array Oper} {its : List It} {l : List CO} (hc : cOpers P n ops ops.toList = some l) (h1 : its.map (·.o) = l) (h2 : its.map (·.i) = List.range' 0 l.length) : (∀ (j : Nat) x, its[j]? = some x → x.i = j) ∧ (∀ x ∈ its, ∃ o, ops[x.i]? = some o ∧ cOper P n ops o = some x.o) := by
  obtain ⟨k1, k2⟩ := cOpers_ok hc
  have hidx : ∀ (j : Nat) x, its[j]? = some x → x.i = j := by
    intro j x hj
    have e1 : (its.map (·.i))[j]? = some x.i := by simp [hj]
    rw [h2] at e1
    have hlt : j < its.length := (List.getElem?_eq_some_iff.1 hj).1
    have hll : its.length = l.length := by rw [← h1]; simp
    rw [List.getElem?_range' (by omega)] at e1
    simpa using e1.symm
  refine ⟨hidx, fun x hx => ?_⟩
  obtain ⟨j, hj⟩ := List.getElem?_of_mem hx
  have hji := hidx j x hj
  have hlo : l[j]? = some x.o := by rw [← h1]; simp [hj]
  have hlt : j < ops.toList.length := by rw [← k1]; exact (List.getElem?_eq_some_iff.1 hlo).1
  have ho : ops.toList[j]? = some (ops.toList[j]) := by simp
  refine ⟨ops.toList[j], ?_, k2 j _ _ ho hlo⟩
  rw [hji, ← ho]
  simp

theorem exists_min (p : Nat → Prop) : ∀ n, p n → ∃ k, p k ∧ ∀ j, p j → k ≤ j := by
  intro n
  induction n using Nat.strongRecOn with
  | _ n ih =>
    intro hn
    by_cases h : ∃ m, m < n ∧ p m
    · obtain ⟨m, hm, hp⟩ := h
      exact ih m hm hp
    · exact ⟨n, hn, fun j hj => Nat.le_of_not_lt fun hlt => h ⟨j, hlt, hj⟩⟩
theorem wp_loop_by {P : Program} {Q : Exit → Act → World → Prop} {a : Act} {w : World} {c : Code} {ι : Type} (I : ι → Act → World → Prop) (μ : ι → Nat) (i₀ : ι) (h₀ : I i₀ a w)
    (round : ∀ i a w, I i a w → c.wp P (Exit.then (fun a' w' => ∃ i', μ i' < μ i ∧ I i' a' w') Q) a w) : (Code.loop c).wp P Q a w := by
  have hm : ∀ a w, ∃ k, (∃ i, I i a w) → (∃ i, μ i = k ∧ I i a w) ∧ ∀ j, I j a w → k ≤ μ j := by
    intro a w
    by_cases h : ∃ i, I i a w
    · obtain ⟨i, hi⟩ := h
      obtain ⟨k, h1, h2⟩ := exists_min (fun k => ∃ i, μ i = k ∧ I i a w) (μ i) ⟨i, rfl, hi⟩
      exact ⟨k, fun _ => ⟨h1, fun j hj => h2 _ ⟨j, rfl, hj⟩⟩⟩
    · exact ⟨0, fun h' => absurd h' h⟩
  refine wp_loop (fun a w => ∃ i, I i a w) (fun a w => Classical.choose (hm a w)) ⟨i₀, h₀⟩ ?_
  intro a w hI
  obtain ⟨⟨i, hi, hIi⟩, _⟩ := Classical.choose_spec (hm a w) hI
  refine wp_mono (round i a w hIi) ?_
  intro e a' w' h
  cases e with
  | normal =>
    obtain ⟨i', hlt, hI'⟩ := h
    refine ⟨⟨i', hI'⟩, ?_⟩
    have := (Classical.choose_spec (hm a' w') ⟨i', hI'⟩).2 i' hI'
    rw [← hi]
    exact Nat.lt_of_le_of_lt this hlt
  | _ => exact h

/-- What is told of a machine's state after some code. -/
def After' (F : Fr) (pv : List (Nat × Value)) (n : Nat) (df : List Deferred) (Q : Ex → Env → Store → Prop) : Exit → Act → World → Prop := fun e a w =>
  ∃ x E S g, w = g.m.w ∧ RelP F pv E S g a.tmps ∧ a.tmps.size = n ∧ a.defers = df ∧ Q x E S ∧ (match e, x with | .normal, .normal => True | .exit i, .exit j => i = j | .ret, .ret => True | _, _ => False)

theorem wpx_ok {P : Program} (hm : P.follows .mixedOrders = true) {F : Fr} {pv : List (Nat × Value)} {n : Nat} {df : List Deferred} : ∀ {c : Code} {cc : CC}, cCode P n c = some cc → ∀ {Q : Ex → Env → Store → Prop} {E : Env} {S : Store} {g : G} {a : Act}, wpx P (pv.map (·.1)) cc Q E S → RelP F pv E S g a.tmps → a.tmps.size = n → a.defers = df →
    c.wp P (After' F pv n df Q) a g.m.w
  | .skip, cc, hc, Q, E, S, g, a, h, hr, hn, hd => by
    simp only [cCode, Option.some.injEq] at hc
    subst hc
    exact wp_skip ⟨.normal, E, S, g, rfl, hr, hn, hd, h, trivial⟩
  | .exit id, cc, hc, Q, E, S, g, a, h, hr, hn, hd => by
    simp only [cCode, Option.some.injEq] at hc
    subst hc
    exact wp_exit ⟨.exit id, E, S, g, rfl, hr, hn, hd, h, rfl⟩
  | .ret, cc, hc, Q, E, S, g, a, h, hr, hn, hd => by
    simp only [cCode, Option.some.injEq] at hc
    subst hc
    exact wp_ret ⟨.ret, E, S, g, rfl, hr, hn, hd, h, trivial⟩
  | .region id ops false, cc, hc, Q, E, S, g, a, h, hr, hn, hd => by
    simp only [cCode] at hc
    obtain ⟨l, hl, rfl⟩ := Option.map_eq_some_iff.1 hc
    obtain ⟨its, k1, k2, k3, k4⟩ := h
    obtain ⟨q1, q2⟩ := its_ops hl k1 k2
    have e : List.range ops.size = its.map (·.i) := by
      rw [k2, List.range_eq_range', (cOpers_ok hl).1]; simp
    refine wp_region ?_
    rw [e]
    exact list_ok its (E, S) a g k3 hr hn hd q2 fun a' g' r1 r2 r3 => ⟨.normal, _, _, g', rfl, r1, r2, r3, k4, trivial⟩
  | .region id ops true, cc, hc, Q, E, S, g, a, h, hr, hn, hd => by
    simp only [cCode] at hc
    split at hc
    · rename_i l hl
      split at hc
      · rename_i hb
        obtain rfl := Option.some.inj hc
        obtain ⟨its, k1, k2, k3, k4⟩ := h
        obtain ⟨q1, q2⟩ := its_ops hl k1 k2
        have hlen : its.length = ops.size := by
          have := (cOpers_ok hl).1
          rw [← k1] at this
          simpa using this
        have back : ∀ j o, ops[j]? = some o → ∀ e ∈ o.after, Region.binds .any e = true → e.on < j := fun j o ho e he hbb => by
          have := backB_ok hb j o (by simpa using ho) e he hbb
          omega
        refine wp_region_any hm ?_
        have hpw : its.Pairwise (fun x y => x.i < y.i ∧ (reach ops ops.size y.i x.i = true ∨ Indep x y)) := by
          rw [List.pairwise_iff_getElem]
          intro i j hi hj hij
          have e1 := q1 i its[i] (by simp)
          have e2 := q1 j its[j] (by simp)
          rw [e1, e2]
          refine ⟨hij, ?_⟩
          cases hrc : reach ops ops.size j i with
          | true => exact .inl rfl
          | false =>
            refine .inr ?_
            have hmem : (i, j) ∈ pairsOf ops ops.size := by
              simp only [pairsOf, List.mem_flatMap, List.mem_range, List.mem_filterMap]
              exact ⟨j, by omega, i, hij, by simp [hrc]⟩
            obtain ⟨x, y, hx, hy, hxy⟩ := indepAll_ok k4.1 (i, j) hmem
            have ex : x = its[i].fp := by simpa [hi] using hx.symm
            have ey : y = its[j].fp := by simpa [hj] using hy.symm
            subst ex; subst ey
            exact indepB_ok hxy
        refine any_ok (F := F) (pn := pv) back ops.size its (Array.replicate ops.size false) (E, S) a g.draw k3 hr.draw hn hd q2 hpw (fun j => ?_) ?_ (by simp) (by omega) fun a' g' r1 r2 r3 => ⟨.normal, _, _, g', rfl, r1, r2, r3, k4.2, trivial⟩
        · constructor
          · intro hj
            have hlt : j < ops.size := by
              rcases Nat.lt_or_ge j ops.size with h' | h'
              · exact h'
              · simp [Array.getElem?_eq_none, h'] at hj
            exact ⟨its[j]'(by omega), by simp, q1 j _ (by simp)⟩
          · rintro ⟨x, hx, rfl⟩
            obtain ⟨o, ho, _⟩ := q2 x hx
            have hlt : x.i < ops.size := (Array.getElem?_eq_some_iff.1 ho).1
            simp [hlt]
        · intro j o ho hj
          have hlt : j < ops.size := (Array.getElem?_eq_some_iff.1 ho).1
          simp [hlt] at hj
      · cases hc
    · cases hc
  | .seq x y, cc, hc, Q, E, S, g, a, h, hr, hn, hd => by
    simp only [cCode] at hc
    split at hc
    · rename_i cx cy hx hy
      obtain rfl := Option.some.inj hc
      refine wp_seq (wp_mono (wpx_ok hm hx h hr hn hd) ?_)
      rintro e a' w' ⟨z, E', S', g', rfl, r1, r2, r3, r4, r5⟩
      cases e <;> cases z <;> first
        | (exact r5.elim; done)
        | (obtain ⟨s, hw, h'⟩ := r4
           obtain ⟨g2, e2, rr⟩ := hw F pv g' a'.tmps rfl r1
           rw [← e2]
           exact wpx_ok hm hy h' rr r2 r3)
        | exact ⟨_, E', S', g', rfl, r1, r2, r3, r4, r5⟩
    · cases hc
  | .cond c x y, cc, hc, Q, E, S, g, a, h, hr, hn, hd => by
    simp only [cCode] at hc
    split at hc
    · rename_i cz cx cy hz hx hy
      obtain rfl := Option.some.inj hc
      simp only [wpx] at h
      split at h
      · rename_i t ht
        have hv : a.eval c = .bool t := by have := opd_ok hr.rel hz; rw [ht] at this; simp only [RA, R] at this; exact this.2
        exact wp_cond_split hv (fun e => by
            obtain ⟨s, hw, h'⟩ := h.1 e
            obtain ⟨g2, e2, rr⟩ := hw F pv g a.tmps rfl hr
            rw [← e2]
            exact wpx_ok hm hx h' rr hn hd) (fun e => by
            obtain ⟨s, hw, h'⟩ := h.2 e
            obtain ⟨g2, e2, rr⟩ := hw F pv g a.tmps rfl hr
            rw [← e2]
            exact wpx_ok hm hy h' rr hn hd)
      · exact h.elim
    · cases hc
  | .block id x, cc, hc, Q, E, S, g, a, h, hr, hn, hd => by
    simp only [cCode] at hc
    obtain ⟨cx, hx, rfl⟩ := Option.map_eq_some_iff.1 hc
    refine wp_block (wp_mono (wpx_ok hm hx h hr hn hd) ?_)
    rintro e a' w' ⟨z, E', S', g', rfl, r1, r2, r3, r4, r5⟩
    cases e with
    | exit i =>
      cases z with
      | exit j =>
        obtain rfl : i = j := r5
        simp only [blockX] at r4
        simp only [Exit.inBlock]
        split
        · rename_i hi; rw [if_pos hi] at r4; exact ⟨.normal, E', S', g', rfl, r1, r2, r3, r4, trivial⟩
        · rename_i hi; rw [if_neg hi] at r4; exact ⟨.exit i, E', S', g', rfl, r1, r2, r3, r4, rfl⟩
      | _ => exact r5.elim
    | normal => cases z <;> first | (exact r5.elim; done) | exact ⟨.normal, E', S', g', rfl, r1, r2, r3, r4, r5⟩
    | ret => cases z <;> first | (exact r5.elim; done) | exact ⟨.ret, E', S', g', rfl, r1, r2, r3, r4, r5⟩
    | _ => cases z <;> exact r5.elim
  | .loop x, cc, hc, Q, E, S, g, a, h, hr, hn, hd => by
    simp only [cCode] at hc
    obtain ⟨cx, hx, rfl⟩ := Option.map_eq_some_iff.1 hc
    obtain ⟨ι, T, μ, i₀, hw, hb⟩ := h
    let I : ι → Act → World → Prop := fun i a w => ∃ g, w = g.m.w ∧ RelP F pv (T i).1 (T i).2 g a.tmps ∧ a.tmps.size = n ∧ a.defers = df
    obtain ⟨g0, e0, r0⟩ := hw F pv g a.tmps rfl hr
    rw [← e0]
    refine wp_loop_by I μ i₀ ⟨g0, rfl, r0, hn, hd⟩ ?_
    rintro i a w ⟨g, rfl, q1, q2, q3⟩
    refine wp_mono (wpx_ok hm hx (hb i) q1 q2 q3) ?_
    rintro e a' w' ⟨z, E', S', g', rfl, r1, r2, r3, r4, r5⟩
    cases e <;> cases z <;> first
      | (exact r5.elim; done)
      | (obtain ⟨i', hlt, hww⟩ := r4
         obtain ⟨g2, e2, rr⟩ := hww F pv g' a'.tmps rfl r1
         exact ⟨i', hlt, g2, e2.symm, rr, r2, r3⟩)
      | exact ⟨_, E', S', g', rfl, r1, r2, r3, r4, r5⟩
  | .rangeFunc _ _ _ _, cc, hc, Q, E, S, g, a, h, hr, hn, hd => by simp [cCode] at hc
  | .scope _, cc, hc, Q, E, S, g, a, h, hr, hn, hd => by simp [cCode] at hc
  | .label _, cc, hc, Q, E, S, g, a, h, hr, hn, hd => by simp [cCode] at hc
  | .goto _, cc, hc, Q, E, S, g, a, h, hr, hn, hd => by simp [cCode] at hc
  | .refuse _, cc, hc, Q, E, S, g, a, h, hr, hn, hd => by simp [cCode] at hc

end Go.Proofs.YtcaemkcglflmnaaDoor.Vm
