/-
  The abstract machine, part M: steps; a step that is told is what the machine does. Conditions: none.
-/
import Derived.Test.YtcaemkcglflmnaaDoorVmL
import Derived.Orders
namespace Go.Proofs.YtcaemkcglflmnaaDoor.Vm
open Go Go.RowKit
variable [Tbl]
set_option linter.unusedSimpArgs false
set_option linter.unusedVariables false
set_option linter.unusedSectionVars false

structure CO where
  dst : Option Nat
  g : Option (Nat × Bool)
  op : COp
  deriving Inhabited

def slotsOf : List Opd → List Nat
  | [] => []
  | .t n :: l => n :: slotsOf l
  | _ :: l => slotsOf l
def CO.slots (o : CO) : List Nat := (match o.g with | some (s, _) => [s] | none => []) ++ slotsOf (opds o.op)

def eput (E : Env) (dst : Option Nat) (a : AV) : Env := match dst with | some d => (d, a) :: E | none => E
def isB : Value → Option Bool
  | .bool b => some b
  | _ => none

/-- Data that holds no address. -/
def primD : D → Bool
  | .val _ => true
  | .ag l => primDs l
  | .tp l => primDs l
  | _ => false
where primDs : List D → Bool
  | [] => true
  | d :: l => primD d && primDs l

mutual
theorem primD_ok {m m' : Mem} : ∀ (d : D) (bs : List Nat) (v : Value), primD d = true → R m d bs v → bs = [] ∧ R m' d [] v
  | .val x, bs, v, _, h => by simp only [R] at h ⊢; exact ⟨h.1, trivial, h.2⟩
  | .ag l, bs, v, hp, h => by
    simp only [R] at h ⊢
    obtain ⟨us, h1, h2⟩ := h
    obtain ⟨k1, k2⟩ := primDs_ok l bs us (by simpa only [primD] using hp) h2
    exact ⟨k1, us, h1, k2⟩
  | .tp l, bs, v, hp, h => by
    simp only [R] at h ⊢
    obtain ⟨us, h1, h2⟩ := h
    obtain ⟨k1, k2⟩ := primDs_ok l bs us (by simpa only [primD] using hp) h2
    exact ⟨k1, us, h1, k2⟩
  | .sl _ _ _, _, _, hp, _ => by simp [primD] at hp
  | .rp _, _, _, hp, _ => by simp [primD] at hp
  | .cl _ _, _, _, hp, _ => by simp [primD] at hp
theorem primDs_ok {m m' : Mem} : ∀ (ds : List D) (bs : List Nat) (us : List Value), primD.primDs ds = true → RL m ds bs us → bs = [] ∧ RL m' ds [] us
  | [], bs, us, _, h => by simp only [RL] at h ⊢; exact ⟨h.1, trivial, h.2⟩
  | d :: ds, bs, us, hp, h => by
    simp only [RL] at h ⊢
    obtain ⟨u, us', b1, b2, rfl, rfl, h1, h2⟩ := h
    simp only [primD.primDs, Bool.and_eq_true] at hp
    obtain ⟨rfl, k2⟩ := primD_ok d b1 u hp.1 h1
    obtain ⟨rfl, k4⟩ := primDs_ok ds b2 us' hp.2 h2
    exact ⟨rfl, u, us', [], [], rfl, rfl, k2, k4⟩
end

def avOf : D → AV
  | .ag ds => .ag (ds.map .pu)
  | d => .pu d
def avR : D → AV
  | .tp ds => .tp (ds.map avOf)
  | d => avOf d
theorem avOf_ok {S : Store} {g : G} {d : D} {v : Value} (h : R g.m d [] v) : RA S g (avOf d) v := by
  cases d with
  | ag ds => simp only [R] at h; obtain ⟨us, h1, h2⟩ := h; simp only [avOf, RA]; exact ⟨us, h1, RAs_pu h2⟩
  | _ => simp only [avOf, RA]; exact h
theorem avOfs_ok {S : Store} {g : G} : ∀ {ds : List D} {us : List Value}, RL g.m ds [] us → RAs S g (ds.map avOf) us
  | [], us, h => by simp only [RL] at h; simp [RAs, h.2]
  | d :: ds, us, h => by
    simp only [RL] at h
    obtain ⟨u, us', b1, b2, rfl, hb, h3, h4⟩ := h
    obtain ⟨rfl, rfl⟩ : b1 = [] ∧ b2 = [] := by simpa [eq_comm] using hb
    simp only [List.map_cons, RAs]
    exact ⟨u, us', rfl, avOf_ok h3, avOfs_ok h4⟩
theorem avR_ok {S : Store} {g : G} {d : D} {v : Value} (h : R g.m d [] v) : RA S g (avR d) v := by
  cases d with
  | tp ds => simp only [R] at h; obtain ⟨us, h1, h2⟩ := h; simp only [avR, RA]; exact ⟨us, h1, avOfs_ok h2⟩
  | _ => exact avOf_ok h
theorem Goes.avR {P : Program} {F : Fr} {o : Oper} {a : Act} {S S' : Store} {g : G} {res : D} (h : Goes P F o a S g (.pu res) S') : Goes P F o a S g (avR res) S' := fun K Q hK =>
  h K Q fun v g' h1 h2 h3 => hK v g' h1 (avR_ok (by simpa only [RA] using h2)) h3

def CallRel (P : Program) (E : Env) (S : Store) (dst : Nat) (prim : Bool) (f : Opd) (args : List Opd) (rd : List Nat) (av : AV) (ws : Store) : Prop :=
  ∃ id caps, fnOf (ev E f) = some (id, caps) ∧
    ((prim = true ∧ ∃ p ds ds' res, views S (args.map (ev E) ++ caps) = some (p, ds) ∧ p ∧ DLes ds ds' ∧ Sound P id (ds'.map .v) res (ds'.map .v) ∧ primD res = true ∧ rd = pubs (args.map (ev E) ++ caps) ∧ av = avR res ∧ ws = []) ∨
     ∃ p As As' outs lents S2 S3 res, argsG (pubAll S (pubs (args.map (ev E) ++ caps))) (pubAll S (pubs (args.map (ev E) ++ caps))) (args.map (ev E) ++ caps) = some (p, As, lents, S2) ∧ p ∧ ALes As As' ∧ Sound P id As' res outs ∧
       shape outs = shape As' ∧ absRes S2 dst res = some (av, S3) ∧ backG S3 outs lents = some (ws ++ S) ∧ rd = pubs (args.map (ev E) ++ caps) ++ lrefs lents)

def Exec (P : Program) (E : Env) (S : Store) (dst : Nat) (c : COp) (rd : List Nat) (av : AV) (ws : Store) : Prop :=
  match c with
  | .pick c a b => ∃ t, ev E c = .pu (.val (.bool t)) ∧ rd = [] ∧ av = (if t then ev E a else ev E b) ∧ ws = []
  | .call prim f args => CallRel P E S dst prim f args rd av ws
  | c => ∃ r, det E S dst c = some r ∧ r.p ∧ rd = r.rd ∧ av = r.av ∧ ws = r.ws

def ARel (P : Program) (E : Env) (S : Store) (o : CO) (rd : List Nat) (av : AV) (ws : Store) : Prop :=
  match o.g with
  | none => Exec P E S (o.dst.getD 0) o.op rd av ws
  | some (s, want) => ∃ v, eget E s = .pu (.val v) ∧ if isB v = some want then Exec P E S (o.dst.getD 0) o.op rd av ws else rd = [] ∧ av = .pu (.val undef) ∧ ws = []

theorem ev_loc {E E' : Env} {l : List Opd} (h : ∀ t ∈ slotsOf l, eget E' t = eget E t) : ∀ x ∈ l, ev E' x = ev E x := by
  induction l with
  | nil => simp
  | cons y l ih =>
    intro x hx
    rcases List.mem_cons.1 hx with rfl | hx
    · cases x with
      | t n => exact h n (by simp [slotsOf])
      | _ => rfl
    · refine ih (fun t ht => h t ?_) x hx
      cases y <;> simp [slotsOf, ht]

theorem CallRel.loc {P : Program} {E E' : Env} {S S' : Store} {dst : Nat} {prim : Bool} {f : Opd} {args : List Opd} {rd : List Nat} {av : AV} {ws : Store} (h : CallRel P E S dst prim f args rd av ws)
    (he : ∀ x ∈ f :: args, ev E' x = ev E x) (hs : Ag (rd ++ ws.map (·.1)) S S') : CallRel P E' S' dst prim f args rd av ws := by
  obtain ⟨id, caps, h1, h2⟩ := h
  have ea : args.map (ev E') = args.map (ev E) := List.map_congr_left fun x hx => he x (by simp [hx])
  refine ⟨id, caps, by rw [he f (by simp)]; exact h1, ?_⟩
  rw [ea]
  rcases h2 with ⟨hp, p, ds, ds', res, k1, k2, k3, k4, k5, rfl, k7, k8⟩ | ⟨p, As, As', outs, lents, S2, S3, res, k1, k2, k3, k4, k5, k6, k7, rfl⟩
  · exact .inl ⟨hp, p, ds, ds', res, by rw [views_loc hs.left]; exact k1, k2, k3, k4, k5, rfl, k7, k8⟩
  · refine .inr ⟨p, As, As', outs, lents, ?_⟩
    obtain ⟨w1, e1, _, f1⟩ := pubAll_loc (pubs (args.map (ev E) ++ caps)) S
    rw [e1] at k1
    obtain ⟨w2, rfl, f2⟩ := argsG_loc k1
    obtain ⟨w3, rfl, f3⟩ := absRes_loc k6
    obtain ⟨w4, e4, f4⟩ := backG_loc k7
    have ew : ws = w4 ++ (w3 ++ (w2 ++ w1)) := by
      have : ws ++ S = (w4 ++ (w3 ++ (w2 ++ w1))) ++ S := by rw [e4]; simp [List.append_assoc]
      exact List.append_cancel_right this
    subst ew
    simp only [List.map_append, List.append_assoc] at hs
    have a1 : Ag (pubs (args.map (ev E) ++ caps)) S S' := hs.sub fun i hi => by simp only [List.mem_append]; exact .inl hi
    have a2 : Ag (lrefs lents) S S' := hs.sub fun i hi => by simp only [List.mem_append]; exact .inr (.inl hi)
    have a3 : Ag (w3.map (·.1)) S S' := hs.sub fun i hi => by simp only [List.mem_append]; exact .inr (.inr (.inr (.inl hi)))
    have a4 : Ag (w4.map (·.1)) S S' := hs.sub fun i hi => by simp only [List.mem_append]; exact .inr (.inr (.inl hi))
    refine ⟨w2 ++ (w1 ++ S'), w3 ++ (w2 ++ (w1 ++ S')), res, ?_, k2, k3, k4, k5, ?_, ?_, rfl⟩
    · rw [f1 S' a1]; exact f2 _ _ (Ag.over a1 _) (Ag.over a2 _)
    · exact f3 _ (Ag.over (Ag.over a3 _) _)
    · rw [f4 _ (Ag.over (Ag.over (Ag.over a4 _) _) _)]; simp [List.append_assoc]

theorem Exec.loc {P : Program} {E E' : Env} {S S' : Store} {dst : Nat} {c : COp} {rd : List Nat} {av : AV} {ws : Store} (h : Exec P E S dst c rd av ws)
    (he : ∀ x ∈ opds c, ev E' x = ev E x) (hs : Ag (rd ++ ws.map (·.1)) S S') : Exec P E' S' dst c rd av ws := by
  have plain : (∃ r, det E S dst c = some r ∧ r.p ∧ rd = r.rd ∧ av = r.av ∧ ws = r.ws) → ∃ r, det E' S' dst c = some r ∧ r.p ∧ rd = r.rd ∧ av = r.av ∧ ws = r.ws := by
    rintro ⟨r, h1, h2, rfl, rfl, rfl⟩
    exact ⟨r, det_locS (by rw [det_locE he]; exact h1) hs, h2, rfl, rfl, rfl⟩
  cases c with
  | pick c a b =>
    obtain ⟨t, h1, h2, h3, h4⟩ := h
    refine ⟨t, by rw [he c (by simp [opds])]; exact h1, h2, ?_, h4⟩
    rw [he a (by simp [opds]), he b (by simp [opds])]; exact h3
  | call prim f args => exact CallRel.loc h he hs
  | _ => exact plain h

theorem ARel.loc {P : Program} {E E' : Env} {S S' : Store} {o : CO} {rd : List Nat} {av : AV} {ws : Store} (h : ARel P E S o rd av ws)
    (he : ∀ t ∈ o.slots, eget E' t = eget E t) (hs : Ag (rd ++ ws.map (·.1)) S S') : ARel P E' S' o rd av ws := by
  have hx : ∀ x ∈ opds o.op, ev E' x = ev E x := ev_loc fun t ht => he t (by simp [CO.slots, ht])
  unfold ARel at h ⊢
  split at h
  · exact h.loc hx hs
  · rename_i s want hg
    obtain ⟨v, h1, h2⟩ := h
    refine ⟨v, by rw [he s (by simp [CO.slots, hg])]; exact h1, ?_⟩
    split at h2
    · rename_i hb; rw [if_pos hb]; exact h2.loc hx hs
    · rename_i hb; rw [if_neg hb]; exact h2

/-! ### what is told is what is done -/
theorem cOp_call {P : Program} {o : Oper} {prim : Bool} {f : Opd} {xs : List Opd} (h : cOp P o = some (.call prim f xs)) : ∃ f' args ts, o.op = .call { callee := .value f', args := args, argTypes := ts } ∧ cOpd f' = some f ∧ cOpds args.toList = some xs := by
  unfold cOp at h
  split at h
  all_goals first
    | (rename_i f' args ts ho
       split at h
       · rename_i f'' xs'' h1 h2
         simp only [Option.some.injEq, COp.call.injEq] at h
         obtain ⟨_, rfl, rfl⟩ := h
         exact ⟨f', args, ts, ho, h1, h2⟩
       · cases h)
    | (obtain ⟨y, _, h2⟩ := Option.map_eq_some_iff.1 h; cases h2; done)
    | (repeat' split at h
       all_goals first | (cases h; done) | (obtain ⟨y, _, h2⟩ := Option.map_eq_some_iff.1 h; cases h2; done))
theorem cOp_pick {P : Program} {o : Oper} {c a b : Opd} (h : cOp P o = some (.pick c a b)) : ∃ c' a' b', o.op = .pick c' a' b' ∧ cOpd c' = some c ∧ cOpd a' = some a ∧ cOpd b' = some b := by
  unfold cOp at h
  split at h
  all_goals first
    | (rename_i c' a' b' ho
       split at h
       · rename_i c'' a'' b'' h1 h2 h3
         simp only [Option.some.injEq, COp.pick.injEq] at h
         obtain ⟨rfl, rfl, rfl⟩ := h
         exact ⟨c', a', b', ho, h1, h2, h3⟩
       · cases h)
    | (obtain ⟨y, _, h2⟩ := Option.map_eq_some_iff.1 h; cases h2; done)
    | (repeat' split at h
       all_goals first | (cases h; done) | (obtain ⟨y, _, h2⟩ := Option.map_eq_some_iff.1 h; cases h2; done))

theorem exec_goes {P : Program} {F : Fr} {E : Env} {S : Store} {g : G} {a : Act} {o : Oper} (h : Rel F E S g a.tmps) {c : COp} (hc : cOp P o = some c) {dst : Nat} {rd : List Nat} {av : AV} {ws : Store} (hx : Exec P E S dst c rd av ws) : Goes P F o a S g av (ws ++ S) := by
  have plain : isCtl c = false → (∃ r, det E S dst c = some r ∧ r.p ∧ rd = r.rd ∧ av = r.av ∧ ws = r.ws) → Goes P F o a S g av (ws ++ S) := by
    rintro hn ⟨r, h1, h2, rfl, rfl, rfl⟩
    exact (op_sound h hc hn h1 h2).goes
  cases c with
  | pick c x y =>
    obtain ⟨t, h1, rfl, rfl, rfl⟩ := hx
    obtain ⟨c', x', y', ho, k1, k2, k3⟩ := cOp_pick hc
    have hv : a.eval c' = .bool t := by have := opd_ok h k1; rw [h1] at this; simp only [RA, R] at this; exact this.2
    refine Runs.goes (Runs.pure h.rc (v := if t then a.eval x' else a.eval y') ?_ ?_)
    · simp [execOp, ho, hv, asBool]
    · cases t
      · exact opd_ok h k3
      · exact opd_ok h k2
  | call prim f args =>
    obtain ⟨f', args', ts, ho, k1, k2⟩ := cOp_call hc
    obtain ⟨id, caps, h1, ⟨_, p, ds, ds', res, q1, q2, q3, q4, q5, rfl, rfl, rfl⟩ | ⟨p, As, As', outs, lents, S2, S3, res, q1, q2, q3, q4, q5, q6, q7, rfl⟩⟩ := hx
    · exact (call_prim h ho k1 k2 h1 q1 q2 q3 q4 (fun m m' bs v hr => (primD_ok res bs v q5 hr).2)).avR
    · exact call_gen h ho k1 k2 h1 q1 q2 q3 q4 q5 q6 q7
  | _ => exact plain rfl hx

def dstOk (n : Nat) : Option Nat → Bool
  | some d => decide (d < n)
  | none => true
def gOf (n : Nat) (ops : Array Oper) : Option (Nat × Bool) → Option (Option (Nat × Bool))
  | none => some none
  | some (j, w) => match (ops[j]?).bind (·.dst) with | some s => if s < n then some (some (s, w)) else none | none => none
def cOper (P : Program) (n : Nat) (ops : Array Oper) (o : Oper) : Option CO :=
  match cOp P o, gOf n ops o.guard with
  | some c, some g => if dstOk n o.dst = true then some ⟨o.dst, g, c⟩ else none
  | _, _ => none

/-- Boxes whose places are known. -/
def Pin (pn : List (Nat × Value)) (S : Store) (g : G) : Prop := ∀ q ∈ pn, g.loc q.1 = q.2 ∧ ∃ o, sget S q.1 = some o ∧ o.isBox = true
theorem Pin.tr {pn : List (Nat × Value)} {S S' : Store} {g g' : G} (h : Pin pn S g) (ht : TrS S g S' g') : Pin pn S' g' := fun q hq => by
  obtain ⟨h1, o, h2, h3⟩ := h q hq
  have := ht.2 _ _ h2
  cases o with
  | slc st d => cases h3
  | box c => exact ⟨this.2.trans h1, this.1⟩
  | hol => exact ⟨this.2.trans h1, this.1⟩
structure RelP (F : Fr) (pn : List (Nat × Value)) (E : Env) (S : Store) (g : G) (tm : Array Value) : Prop where
  rel : Rel F E S g tm
  pin : Pin pn S g

theorem Rel.put {F : Fr} {E : Env} {S S' : Store} {g g' : G} {a : Act} {n : Nat} (h : Rel F E S g a.tmps) (hn : a.tmps.size = n) {dst : Option Nat} (hd : ∀ d, dst = some d → d < n) {av : AV} {v : Value} (hrc : RC F S' g') (hv : RA S' g' av v) (ht : TrS S g S' g') :
    Rel F (eput E dst av) S' g' (a.put dst v).tmps ∧ (a.put dst v).tmps.size = n ∧ (a.put dst v).defers = a.defers := by
  cases dst with
  | none => exact ⟨⟨fun t => RA_tr ht _ _ (h.env t), hrc⟩, hn, rfl⟩
  | some d =>
    refine ⟨⟨fun t => ?_, hrc⟩, by simp [Act.put, hn], rfl⟩
    simp only [eput, eget, Act.put]
    by_cases htd : d = t
    · subst htd
      have := hd d rfl
      simp [hn, this, hv]
    · rw [if_neg htd]
      have := RA_tr ht _ _ (h.env t)
      simpa [Array.getElem?_setIfInBounds_ne htd] using this

theorem wpOp_ok {P : Program} {F : Fr} {E : Env} {S : Store} {g : G} {a : Act} {n : Nat} {ops : Array Oper} {i : Nat} {o : Oper} {co : CO} {pn : List (Nat × Value)} (hh : RelP F pn E S g a.tmps) (hn : a.tmps.size = n) (ho : ops[i]? = some o) (hc : cOper P n ops o = some co)
    {rd : List Nat} {av : AV} {ws : Store} (hx : ARel P E S co rd av ws) {K : Act → World → Prop} {Q : Exit → Act → World → Prop}
    (hK : ∀ a' g', RelP F pn (eput E co.dst av) (ws ++ S) g' a'.tmps → a'.tmps.size = n → a'.defers = a.defers → K a' g'.m.w) : wpOp P ops Q i K a g.m.w := by
  have h := hh.rel
  unfold cOper at hc
  split at hc
  · rename_i c gd hcc hgd
    split at hc
    · rename_i hd
      obtain rfl := Option.some.inj hc
      have hd' : ∀ d, o.dst = some d → d < n := by
        intro d e
        rw [e] at hd
        simpa [dstOk] using hd
      have go : Exec P E S (o.dst.getD 0) c rd av ws → o.wp P a g.m.w K Q := fun hxx => exec_goes h hcc hxx K Q fun v g' h1 h2 h3 => by
        obtain ⟨k1, k2, k3⟩ := h.put hn hd' h1 h2 h3
        exact hK _ _ ⟨k1, hh.pin.tr h3⟩ k2 k3
      unfold wpOp
      simp only [ho]
      unfold gOf at hgd
      split at hgd
      · rename_i hg
        obtain rfl := Option.some.inj hgd
        have hw : Region.wanted o (yielded ops a.tmps) = true := by simp [Region.wanted, hg]
        rw [if_pos hw]
        exact .inl (go hx)
      · rename_i j w hg
        split at hgd
        · rename_i s hs
          split at hgd
          · rename_i hsn
            obtain rfl := Option.some.inj hgd
            obtain ⟨v, h1, h2⟩ := hx
            have hv : a.tmps.getD s undef = v := by have := h.env s; rw [h1] at this; simp only [RA, R] at this; exact this.2
            have hy : yielded ops a.tmps j = isB v := by
              unfold yielded
              rw [hs]
              have : a.tmps[s]? = some v := by
                have hlt : s < a.tmps.size := Nat.lt_of_lt_of_eq hsn hn.symm
                rw [← hv]
                simp [hlt]
              simp only [Option.bind_some, this]
              cases v <;> rfl
            have hw : Region.wanted o (yielded ops a.tmps) = (isB v == some w) := by simp [Region.wanted, hg, hy]
            by_cases hb : isB v = some w
            · rw [if_pos (by rw [hw]; simp [hb])]
              rw [if_pos hb] at h2
              exact .inl (go h2)
            · rw [if_neg (by rw [hw]; simpa using hb)]
              rw [if_neg hb] at h2
              obtain ⟨rfl, rfl, rfl⟩ := h2
              obtain ⟨k1, k2, k3⟩ := h.put hn hd' (av := .pu (.val undef)) (v := undef) h.rc (by simp [RA, R]) (TrS.refl _ _)
              exact hK _ _ ⟨k1, hh.pin⟩ k2 k3
          · cases hgd
        · cases hgd
    · cases hc
  · cases hc

end Go.Proofs.YtcaemkcglflmnaaDoor.Vm
