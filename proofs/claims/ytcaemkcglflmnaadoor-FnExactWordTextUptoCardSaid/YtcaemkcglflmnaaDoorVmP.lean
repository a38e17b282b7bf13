/-
  The abstract machine, part P: functions: what compact code makes of the arguments is what a call makes of them. Conditions: none.
-/
import Derived.Test.YtcaemkcglflmnaaDoorVmO
namespace Go.Proofs.YtcaemkcglflmnaaDoor.Vm
open Go Go.RowKit
variable [Tbl]
set_option linter.unusedSimpArgs false
set_option linter.unusedVariables false
set_option linter.unusedSectionVars false

inductive CR where
  | tmp (t : Nat)
  | cell (t n : Nat) (agg : Bool)
  deriving Inhabited

def rval (E : Env) (S : Store) : CR → Option (Prop × AV)
  | .tmp t => some (True, eget E t)
  | .cell t n agg => match eget E t with
    | .ob id off => match sget S id with
      | some (.box cells) => if agg then some (off + n ≤ cells.length, .ag ((cells.drop off).take n)) else (match cells[off]? with | some c => some (True, c) | none => none)
      | _ => none
    | _ => none
def rvals (E : Env) (S : Store) : List CR → Option (Prop × List AV)
  | [] => some (True, [])
  | c :: l => match rval E S c, rvals E S l with | some (p, a), some (q, r) => some (p ∧ q, a :: r) | _, _ => none

def takeA (S : Store) : AV → Option (Prop × D × Store)
  | .ag l => match lendCs S l with | some (p, ds, S1) => some (p, .ag ds, S1) | none => none
  | .cl f l => match lendCs S l with | some (p, ds, S1) => some (p, .cl f ds, S1) | none => none
  | a => lendC S a
def takeAs (S : Store) : List AV → Option (Prop × List D × Store)
  | [] => some (True, [], S)
  | a :: l => match takeA S a with
    | some (p, d, S1) => match takeAs S1 l with | some (q, ds, S2) => some (p ∧ q, d :: ds, S2) | none => none
    | none => none
def single : List D → D
  | [d] => d
  | ds => .tp ds

def outL : Nat → List A → List AV
  | _, [] => []
  | k, .v d :: l => .pu d :: outL (k + 1) l
  | k, .bx _ :: l => .ob k 0 :: outL (k + 1) l
def pinIds : Nat → List A → List Nat
  | _, [] => []
  | k, .v _ :: l => pinIds (k + 1) l
  | k, .bx _ :: l => k :: pinIds (k + 1) l
def pinsOf : Nat → List A → List Value → List (Nat × Value)
  | k, .v _ :: l, _ :: vs => pinsOf (k + 1) l vs
  | k, .bx _ :: l, v :: vs => (k, v) :: pinsOf (k + 1) l vs
  | _, _, _ => []
def lentsOf (l : List Nat) : List (Nat × List AV) := l.map fun k => (k, [])
def holS (l : List Nat) : Store := l.map fun k => (k, .hol)
def enterE : Nat → List A → Env
  | _, [] => []
  | k, .v d :: l => (k, avOf d) :: enterE (k + 1) l
  | k, .bx _ :: l => (k, .ob k 0) :: enterE (k + 1) l

def retQ (args : List A) (crs : List CR) (res : D) (outs : List A) : Ex → Env → Store → Prop
  | .exit _, _, _ => False
  | _, E, S => match rvals E S crs with
    | some (p0, L) => (match takeAs S L with
      | some (p1, ds, S1) => (match argsG S1 S1 (outL 0 args) with
        | some (p2, outs0, _, _) => p0 ∧ p1 ∧ p2 ∧ DLe (single ds) res ∧ ALes outs0 outs
        | none => False)
      | none => False)
    | none => False

theorem takeA_ok {F : Fr} {S : Store} {g : G} {fl : List Nat} (h : RCF F S g fl) {a : AV} {u : Value} (hr : RA S g a u) {p : Prop} {d : D} {S' : Store} (hl : takeA S a = some (p, d, S')) (hp : p) :
    ∃ g' bs, g'.m = g.m ∧ RCF F S' g' (fl ++ bs) ∧ TrS S g S' g' ∧ R g.m d bs u := by
  have one : lendC S a = some (p, d, S') → ∃ g' bs, g'.m = g.m ∧ RCF F S' g' (fl ++ bs) ∧ TrS S g S' g' ∧ R g.m d bs u := fun hl => by
    obtain ⟨g', bs, h1, h2, h3, h4, _⟩ := lendC_ok h hr hl hp
    exact ⟨g', bs, h1, h2, h3, h4⟩
  cases a with
  | ag l =>
    simp only [takeA] at hl
    split at hl
    · rename_i p' ds S1 h1
      simp only [Option.some.injEq, Prod.mk.injEq] at hl
      obtain ⟨rfl, rfl, rfl⟩ := hl
      simp only [RA] at hr
      obtain ⟨us, rfl, hr⟩ := hr
      obtain ⟨g', bs, k1, k2, k3, k4, _⟩ := lendCs_ok h hr h1 hp
      exact ⟨g', bs, k1, k2, k3, by simp only [R]; exact ⟨us, rfl, k4⟩⟩
    · cases hl
  | cl f l =>
    simp only [takeA] at hl
    split at hl
    · rename_i p' ds S1 h1
      simp only [Option.some.injEq, Prod.mk.injEq] at hl
      obtain ⟨rfl, rfl, rfl⟩ := hl
      simp only [RA] at hr
      obtain ⟨us, rfl, hr⟩ := hr
      obtain ⟨g', bs, k1, k2, k3, k4, _⟩ := lendCs_ok h hr h1 hp
      exact ⟨g', bs, k1, k2, k3, by simp only [R]; exact ⟨us, rfl, k4⟩⟩
    · cases hl
  | _ => exact one hl
theorem takeAs_ok {F : Fr} : ∀ {l : List AV} {S : Store} {g : G} {fl : List Nat} {us : List Value} {p : Prop} {ds : List D} {S' : Store}, RCF F S g fl → RAs S g l us → takeAs S l = some (p, ds, S') → p →
    ∃ g' bs, g'.m = g.m ∧ RCF F S' g' (fl ++ bs) ∧ TrS S g S' g' ∧ RL g.m ds bs us
  | [], S, g, fl, us, p, ds, S', h, hr, hl, hp => by
    simp only [takeAs, Option.some.injEq, Prod.mk.injEq] at hl
    obtain ⟨rfl, rfl, rfl⟩ := hl
    simp only [RAs] at hr
    exact ⟨g, [], rfl, by simpa using h, TrS.refl _ _, by simp [RL, hr]⟩
  | a :: l, S, g, fl, us, p, ds, S', h, hr, hl, hp => by
    simp only [takeAs] at hl
    split at hl
    · rename_i p1 d S1 h1
      split at hl
      · rename_i q ds' S2 h2
        simp only [Option.some.injEq, Prod.mk.injEq] at hl
        obtain ⟨rfl, rfl, rfl⟩ := hl
        simp only [RAs] at hr
        obtain ⟨u, us', rfl, r1, r2⟩ := hr
        obtain ⟨g1, b1, e1, k1, k2, k3⟩ := takeA_ok h r1 h1 hp.1
        obtain ⟨g2, b2, e2, q1, q2, q3⟩ := takeAs_ok k1 (RAs_tr k2 _ _ r2) h2 hp.2
        rw [e1] at q3
        exact ⟨g2, b1 ++ b2, e2.trans e1, by rw [← List.append_assoc]; exact q1, k2.trans q2, by simp only [RL]; exact ⟨u, us', b1, b2, rfl, rfl, k3, q3⟩⟩
      · cases hl
    · cases hl

def cRes (P : Program) : ResultVar → Option CR
  | .tmp t => some (.tmp t)
  | .cell t ty => match P.info? ty, P.underlying ty with
    | some i, some d => some (.cell t i.size (aggT d))
    | _, _ => none
def cRess (P : Program) : List ResultVar → Option (List CR)
  | [] => some []
  | r :: l => match cRes P r, cRess P l with | some c, some s => some (c :: s) | _, _ => none

def resVal (tm : Array Value) : ResultVar → Sem Value
  | .tmp t => pure (tm.getD t undef)
  | .cell a t => do loadVar t (← asAddr (tm.getD a undef))

theorem cell_run {P : Program} {tm : Array Value} {t : Nat} {ty : TypeId} {b off : Nat} {w : World} (h : tm.getD t undef = ptr b off) : (resVal tm (.cell t ty)).run P w = (Instr.loadAt ty (ptr b off)).run P w := by
  simp only [resVal, h]
  simp [ptr, asAddr, Instr.loadAt, Instr.sureAddr]

theorem cRes_ok {P : Program} {F : Fr} {E : Env} {S : Store} {g : G} {tm : Array Value} (h : Rel F E S g tm) {r : ResultVar} {c : CR} (hc : cRes P r = some c) {p : Prop} {a : AV} (hv : rval E S c = some (p, a)) (hp : p) : ∃ v, (resVal tm r).run P g.m.w = .ok v g.m.w ∧ RA S g a v := by
  cases r with
  | tmp t =>
    simp only [cRes, Option.some.injEq] at hc
    subst hc
    simp only [rval, Option.some.injEq, Prod.mk.injEq] at hv
    obtain ⟨rfl, rfl⟩ := hv
    exact ⟨_, rfl, h.env t⟩
  | cell t ty =>
    simp only [cRes] at hc
    split at hc
    · rename_i i d hi hd
      obtain rfl := Option.some.inj hc
      simp only [rval] at hv
      split at hv
      · rename_i id off he
        split at hv
        · rename_i cells hs
          have ht := h.env t
          rw [he] at ht
          simp only [RA] at ht
          obtain ⟨_, b, h1, h2⟩ := ht
          obtain ⟨b', t', us, k1, k2, k3, k4, k5, k6⟩ := h.rc.obj id _ hs
          obtain rfl : b' = b := by rw [h1] at k1; simpa [ptr] using k1.symm
          have hlen := RAs_length _ _ k5
          split at hv
          · rename_i hag
            simp only [Option.some.injEq, Prod.mk.injEq] at hv
            obtain ⟨rfl, rfl⟩ := hv
            have hr := run_loadVar (P := P) (w := g.m.w) (t := ty) (b := b') (off := off) (us := (us.drop off).take i.size) hi hd rfl (fun _ => by simp; omega) (fun e => by rw [hag] at e; cases e)
              (fun j u hj => by
                rw [cell_at k4]
                rw [List.getElem?_take] at hj
                split at hj
                · rw [List.getElem?_drop] at hj; simpa using hj
                · cases hj)
            refine ⟨.agg ((us.drop off).take i.size).toArray, ?_, ?_⟩
            · rw [cell_run h2, hr, if_pos hag]
            · simp only [RA]; exact ⟨_, rfl, RAs_sub off i.size k5⟩
          · rename_i hag
            have hag' : aggT d = false := by simpa using hag
            split at hv
            · rename_i c hcc
              simp only [Option.some.injEq, Prod.mk.injEq] at hv
              obtain ⟨rfl, rfl⟩ := hv
              obtain ⟨u, hu, hru⟩ := RAs_get k5 hcc
              have hr := run_loadVar (P := P) (w := g.m.w) (t := ty) (b := b') (off := off) (us := [u]) hi hd rfl (fun e => by rw [hag'] at e; cases e) (fun _ => rfl)
                (fun j x hj => by rw [cell_at k4]; cases j with
                  | zero => simp at hj; subst hj; simpa using hu
                  | succ j => simp at hj)
              refine ⟨u, ?_, hru⟩
              rw [cell_run h2, hr, hag']
              rfl
            · cases hv
        · cases hv
      · cases hv
    · cases hc
theorem cRess_ok {P : Program} {F : Fr} {E : Env} {S : Store} {g : G} {tm : Array Value} (h : Rel F E S g tm) : ∀ {rs : List ResultVar} {cs : List CR} {p : Prop} {l : List AV}, cRess P rs = some cs → rvals E S cs = some (p, l) → p → ∃ vs : List Value, (rs.mapM (resVal tm)).run P g.m.w = .ok vs g.m.w ∧ RAs S g l vs
  | [], cs, p, l, hc, hv, hp => by
    simp only [cRess, Option.some.injEq] at hc
    subst hc
    simp only [rvals, Option.some.injEq, Prod.mk.injEq] at hv
    obtain ⟨rfl, rfl⟩ := hv
    exact ⟨[], by simp, by simp [RAs]⟩
  | r :: rs, cs, p, l, hc, hv, hp => by
    simp only [cRess] at hc
    split at hc
    · rename_i c s h1 h2
      obtain rfl := Option.some.inj hc
      simp only [rvals] at hv
      split at hv
      · rename_i p1 a q l' e1 e2
        simp only [Option.some.injEq, Prod.mk.injEq] at hv
        obtain ⟨rfl, rfl⟩ := hv
        obtain ⟨v, k1, k2⟩ := cRes_ok h h1 e1 hp.1
        obtain ⟨vs, k3, k4⟩ := cRess_ok h h2 e2 hp.2
        refine ⟨v :: vs, ?_, by simp only [RAs]; exact ⟨v, vs, rfl, k2, k4⟩⟩
        rw [List.mapM_cons]
        simp [k1, k3]
      · cases hv
    · cases hc

def resV : List Value → Value
  | [v] => v
  | vs => .tuple vs.toArray
theorem results_run {P : Program} {fn : Func} {tm : Array Value} {w : World} {vs : List Value} (h : (fn.results.toList.mapM (resVal tm)).run P w = .ok vs w) : (results fn tm).run P w = .ok (resV vs) w := by
  have e : (fn.results.mapM (resVal tm)).run P w = .ok vs.toArray w := by
    rw [← Array.toArray_toList (xs := fn.results), List.mapM_toArray]
    simp [h]
  have e2 : results fn tm = (do let vs ← fn.results.mapM (resVal tm); pure (if h : vs.size = 1 then vs[0] else .tuple vs)) := by
    unfold results
    congr 1
  rw [e2]
  simp only [Sem.run_bind, e, Result.andThen_ok, Sem.run_pure]
  congr 1
  match vs with
  | [] => simp [resV]
  | [v] => simp [resV]
  | v :: u :: l => simp [resV]

theorem outL_pubs : ∀ (k : Nat) (l : List A), pubs (outL k l) = []
  | _, [] => rfl
  | k, .v d :: l => by simp [outL, pubs, pubs1, pubC, outL_pubs (k + 1) l]
  | k, .bx _ :: l => by simp [outL, pubs, pubs1, pubC, outL_pubs (k + 1) l]

theorem outL_ok {m : Mem} {S : Store} {g : G} (hle : MemLe m g.m) : ∀ (k : Nat) (l : List A) (bs : List Nat) (vs : List Value), RArgs m l bs vs → Pin (pinsOf k l vs) S g → RAs S g (outL k l) vs
  | k, [], bs, vs, h, _ => by simp only [RArgs] at h; simp [outL, RAs, h.2]
  | k, .v d :: l, bs, vs, h, hp => by
    simp only [RArgs, RArg] at h
    obtain ⟨v, vs', b1, b2, rfl, rfl, ⟨_, h1⟩, h2⟩ := h
    simp only [outL, RAs]
    exact ⟨v, vs', rfl, by simp only [RA]; exact R_mono hle _ _ _ (KeepB.nil _ _) h1, outL_ok hle (k + 1) l b2 vs' h2 hp⟩
  | k, .bx c :: l, bs, vs, h, hp => by
    simp only [RArgs, RArg] at h
    obtain ⟨v, vs', b1, b2, rfl, rfl, ⟨b, t, us, bs', _, rfl, _⟩, h2⟩ := h
    simp only [outL, RAs]
    obtain ⟨q1, o, q2, q3⟩ := hp (k, ptr b 0) (by simp [pinsOf])
    exact ⟨_, vs', rfl, by simp only [RA]; exact ⟨⟨o, q2, q3⟩, b, q1, rfl⟩, outL_ok hle (k + 1) l b2 vs' h2 (fun q hq => hp q (by simp [pinsOf, hq]))⟩

theorem pinsOf_ids {m : Mem} : ∀ (k : Nat) (l : List A) (bs : List Nat) (vs : List Value), RArgs m l bs vs → (pinsOf k l vs).map (·.1) = pinIds k l
  | k, [], bs, vs, h => by simp only [RArgs] at h; simp [h.2, pinsOf, pinIds]
  | k, .v d :: l, bs, vs, h => by
    simp only [RArgs] at h
    obtain ⟨v, vs', b1, b2, rfl, rfl, _, h2⟩ := h
    simp only [pinsOf, pinIds]
    exact pinsOf_ids (k + 1) l b2 vs' h2
  | k, .bx c :: l, bs, vs, h => by
    simp only [RArgs] at h
    obtain ⟨v, vs', b1, b2, rfl, rfl, _, h2⟩ := h
    simp only [pinsOf, pinIds, List.map_cons, pinsOf_ids (k + 1) l b2 vs' h2]

theorem pinIds_ge : ∀ (k : Nat) (l : List A), ∀ i ∈ pinIds k l, k ≤ i
  | k, [], i, h => by simp [pinIds] at h
  | k, .v _ :: l, i, h => Nat.le_trans (Nat.le_succ k) (pinIds_ge (k + 1) l i h)
  | k, .bx _ :: l, i, h => by
    rcases List.mem_cons.1 h with rfl | h
    · exact Nat.le_refl _
    · exact Nat.le_trans (Nat.le_succ k) (pinIds_ge (k + 1) l i h)

theorem holS_get : ∀ {l : List Nat} {i : Nat}, sget (holS l) i = if i ∈ l then some .hol else none
  | [], i => by simp [holS, sget]
  | k :: l, i => by
    have ih := holS_get (l := l) (i := i)
    simp only [holS] at ih ⊢
    simp only [List.map_cons, sget]
    by_cases h : k = i
    · subst h; simp
    · rw [if_neg h, ih]
      have : i ≠ k := fun e => h e.symm
      simp [this]

theorem LV_hol {m : Mem} {S : Store} {g : G} : ∀ (k : Nat) (l : List A) (bs : List Nat) (vs : List Value), RArgs m l bs vs → (∀ q ∈ pinsOf k l vs, sget S q.1 = some .hol ∧ g.loc q.1 = q.2) → LV S g l (lentsOf (pinIds k l)) vs
  | k, [], bs, vs, h, _ => by simp only [RArgs] at h; simp [h.2, lentsOf, pinIds, LV]
  | k, .v d :: l, bs, vs, h, hp => by
    simp only [RArgs] at h
    obtain ⟨v, vs', b1, b2, rfl, rfl, _, h2⟩ := h
    simp only [pinIds, LV]
    exact LV_hol (k + 1) l b2 vs' h2 hp
  | k, .bx c :: l, bs, vs, h, hp => by
    simp only [RArgs] at h
    obtain ⟨v, vs', b1, b2, rfl, rfl, _, h2⟩ := h
    obtain ⟨q1, q2⟩ := hp (k, v) (by simp [pinsOf])
    simp only [pinIds, lentsOf, List.map_cons, LV]
    refine ⟨q1, q2, fun q hq => ?_, LV_hol (k + 1) l b2 vs' h2 (fun q hq => hp q (by simp [pinsOf, hq]))⟩
    obtain ⟨i, hi, rfl⟩ := List.mem_map.1 hq
    have := pinIds_ge (k + 1) l i hi
    simp only
    omega

theorem pinsOf_get {k : Nat} : ∀ {l : List A} {vs : List Value} {j : Nat} {q : Nat × Value}, q ∈ pinsOf j l vs → j ≤ q.1 ∧ vs[q.1 - j]? = some q.2 ∧ ∃ c, l[q.1 - j]? = some (.bx c)
  | [], vs, j, q, h => by simp [pinsOf] at h
  | .v d :: l, [], j, q, h => by simp [pinsOf] at h
  | .bx d :: l, [], j, q, h => by simp [pinsOf] at h
  | .v d :: l, v :: vs, j, q, h => by
    simp only [pinsOf] at h
    obtain ⟨h1, h2, h3⟩ := pinsOf_get (k := k) h
    have e : q.1 - j = (q.1 - (j + 1)) + 1 := by omega
    exact ⟨by omega, by rw [e]; simpa using h2, by rw [e]; simpa using h3⟩
  | .bx d :: l, v :: vs, j, q, h => by
    simp only [pinsOf] at h
    rcases List.mem_cons.1 h with rfl | h
    · exact ⟨Nat.le_refl _, by simp, d, by simp⟩
    · obtain ⟨h1, h2, h3⟩ := pinsOf_get (k := k) h
      have e : q.1 - j = (q.1 - (j + 1)) + 1 := by omega
      exact ⟨by omega, by rw [e]; simpa using h2, by rw [e]; simpa using h3⟩

theorem enterE_ok {m : Mem} {S : Store} {g : G} (hm : g.m = m) : ∀ (k : Nat) (l : List A) (bs : List Nat) (vs : List Value), RArgs m l bs vs → Pin (pinsOf k l vs) S g → ∀ t, eget (enterE k l) t ≠ .un → k ≤ t ∧ ∃ v, vs[t - k]? = some v ∧ RA S g (eget (enterE k l) t) v
  | k, [], bs, vs, h, _, t, ht => by simp [enterE, eget] at ht
  | k, .v d :: l, bs, vs, h, hp, t, ht => by
    simp only [RArgs, RArg] at h
    obtain ⟨v, vs', b1, b2, rfl, rfl, ⟨_, h1⟩, h2⟩ := h
    simp only [enterE, eget] at ht ⊢
    by_cases hk : k = t
    · subst hk
      simp only [if_true] at ht ⊢
      refine ⟨Nat.le_refl _, v, by simp, ?_⟩
      rw [← hm] at h1
      cases d with
      | ag ds =>
        simp only [R] at h1
        obtain ⟨us, rfl, h1⟩ := h1
        simp only [avOf, RA]
        exact ⟨us, rfl, RAs_pu h1⟩
      | _ => simp only [avOf, RA]; exact h1
    · rw [if_neg hk] at ht ⊢
      obtain ⟨q1, u, q2, q3⟩ := enterE_ok hm (k + 1) l b2 vs' h2 hp t ht
      have e : t - k = (t - (k + 1)) + 1 := by omega
      exact ⟨by omega, u, by rw [e]; simpa using q2, q3⟩
  | k, .bx c :: l, bs, vs, h, hp, t, ht => by
    simp only [RArgs, RArg] at h
    obtain ⟨v, vs', b1, b2, rfl, rfl, ⟨b, t', us, bs', _, rfl, _⟩, h2⟩ := h
    simp only [enterE, eget] at ht ⊢
    by_cases hk : k = t
    · subst hk
      simp only [if_true] at ht ⊢
      obtain ⟨q1, o, q2, q3⟩ := hp (k, ptr b 0) (by simp [pinsOf])
      refine ⟨Nat.le_refl _, ptr b 0, by simp, ?_⟩
      simp only [RA]
      exact ⟨⟨o, q2, q3⟩, b, q1, rfl⟩
    · rw [if_neg hk] at ht ⊢
      obtain ⟨q1, u, q2, q3⟩ := enterE_ok hm (k + 1) l b2 vs' h2 (fun q hq => hp q (by simp [pinsOf, hq])) t ht
      have e : t - k = (t - (k + 1)) + 1 := by omega
      exact ⟨by omega, u, by rw [e]; simpa using q2, q3⟩

theorem RArgs_length {m : Mem} : ∀ {l : List A} {bs : List Nat} {vs : List Value}, RArgs m l bs vs → vs.length = l.length
  | [], bs, vs, h => by simp only [RArgs] at h; simp [h.2]
  | a :: l, bs, vs, h => by
    simp only [RArgs] at h
    obtain ⟨v, vs', b1, b2, rfl, rfl, _, h2⟩ := h
    simp [RArgs_length h2]

structure CF where
  n : Nat
  res : List CR
  body : CC
  deriving Inhabited
def compileF (P : Program) (f : Nat) : Option CF :=
  match P.funcs[f]? with
  | some fn => match fn.body with
    | some c => if fn.name == "runtime.NumGoroutine" then none else
      match cRess P fn.results.toList, cCode P fn.ntmps c with
      | some rs, some cc => some ⟨fn.ntmps, rs, cc⟩
      | _, _ => none
    | none => none
  | none => none

theorem sound_of {P : Program} (hm : P.follows .mixedOrders = true) {f : Nat} {cf : CF} (hc : compileF P f = some cf) {args outs : List A} {res : D} (hlen : args.length ≤ cf.n) {S₀ : Store} (hS : backG (holS (pinIds 0 args)) args (lentsOf (pinIds 0 args)) = some S₀)
    (h : wpx P (pinIds 0 args) cf.body (retQ args cf.res res outs) (enterE 0 args) S₀) : Sound P f args res outs := by
  unfold compileF at hc
  split at hc
  · rename_i fn hf
    split at hc
    · rename_i c hb
      split at hc
      · cases hc
      · rename_i hname
        split at hc
        · rename_i rs cc hrs hcc
          obtain rfl := Option.some.inj hc
          refine ⟨⟨fn, hf, by simp [hb], by simpa using hname⟩, fun m vs bs htab hwf hargs hnd hrg him => ?_⟩
          refine calls_of_wp hf hb ?_
          let F : Fr := ⟨m.w, m.im, bs, htab, him⟩
          let g0 : G := ⟨fun i => vs.getD i undef, fun _ => [], m⟩
          have hpins := pinsOf_ids 0 args bs vs hargs
          have hp0 : ∀ q ∈ pinsOf 0 args vs, sget (holS (pinIds 0 args)) q.1 = some .hol ∧ g0.loc q.1 = q.2 := by
            intro q hq
            refine ⟨?_, ?_⟩
            · rw [holS_get, if_pos]
              rw [← hpins]
              exact List.mem_map.2 ⟨q, hq, rfl⟩
            · have := (pinsOf_get (k := 0) hq).2.1
              simp only [Nat.sub_zero] at this
              simp [g0, this]
          have hptr : ∀ i ∈ pinIds 0 args, ∃ b, g0.loc i = ptr b 0 := by
            intro i hi
            rw [← hpins] at hi
            obtain ⟨q, hq, rfl⟩ := List.mem_map.1 hi
            rw [(hp0 q hq).2]
            have key : ∀ (k : Nat) (l : List A) (bs : List Nat) (vs : List Value), RArgs m l bs vs → ∀ q ∈ pinsOf k l vs, ∃ b, q.2 = ptr b 0 := by
              intro k l
              induction l generalizing k with
              | nil => intro bs vs _ q hq; simp [pinsOf] at hq
              | cons a l ih =>
                intro bs vs h q hq
                simp only [RArgs] at h
                obtain ⟨v, vs', b1, b2, rfl, rfl, h1, h2⟩ := h
                cases a with
                | v d => exact ih (k + 1) b2 vs' h2 q hq
                | bx c =>
                  simp only [pinsOf] at hq
                  rcases List.mem_cons.1 hq with rfl | hq
                  · obtain ⟨b, t, us, bs', _, rfl, _⟩ := h1
                    exact ⟨b, rfl⟩
                  · exact ih (k + 1) b2 vs' h2 q hq
            exact key 0 args bs vs hargs q hq
          have rc0 : RC F (holS (pinIds 0 args)) g0 := {
            obj := fun i o ho => by
              rw [holS_get] at ho
              split at ho
              · rename_i hi
                obtain rfl := Option.some.inj ho
                exact ⟨hptr i hi, rfl⟩
              · cases ho
            nodup := fun _ _ => by simp [g0]
            disj := fun _ _ _ _ _ b hb => by simp [g0] at hb
            range := fun _ _ b hb => by simp [g0] at hb
            wf := hwf
            size := Nat.le_refl _
            keep := fun _ _ _ => ⟨rfl, rfl⟩
            os := rfl
            tape := rfl
            output := rfl }
          have rcf0 : RCF F (holS (pinIds 0 args)) g0 (bs ++ []) := by
            rw [List.append_nil]
            exact ⟨rc0, hnd, fun b hb => ⟨hrg b hb, .inr hb⟩, fun i _ b hb => by simp [g0] at hb⟩
          obtain ⟨g1, m1, r1, t1⟩ := backG_ok (outs := args) (xs := args) rfl (by exact hargs) (LV_hol 0 args bs vs hargs hp0) rcf0 hS
          have pin1 : Pin (pinsOf 0 args vs) S₀ g1 := fun q hq => by
            obtain ⟨k1, k2⟩ := hp0 q hq
            have := t1.2 _ _ k1
            exact ⟨this.2.trans k2, this.1⟩
          have hsz : vs.length = args.length := RArgs_length hargs
          have hrel : RelP F (pinsOf 0 args vs) (enterE 0 args) S₀ g1 (vs.toArray ++ Array.replicate (fn.ntmps - vs.toArray.size) undef) := by
            refine ⟨⟨fun t => ?_, r1.rc⟩, pin1⟩
            by_cases hu : eget (enterE 0 args) t = .un
            · rw [hu]; simp only [RA]
            · obtain ⟨_, v, k1, k2⟩ := enterE_ok m1 0 args bs vs hargs pin1 t hu
              simp only [Nat.sub_zero] at k1
              have hlt : t < vs.length := (List.getElem?_eq_some_iff.1 k1).1
              have : (vs.toArray ++ Array.replicate (fn.ntmps - vs.toArray.size) undef).getD t undef = v := by
                have e : (vs.toArray ++ Array.replicate (fn.ntmps - vs.toArray.size) undef)[t]? = some v := by
                  rw [Array.getElem?_append_left (by simpa using hlt)]
                  simpa using k1
                rw [Array.getD_eq_getD_getElem?, e]; rfl
              rw [this]; exact k2
          have hwp := wpx_ok hm hcc (pv := pinsOf 0 args vs) (F := F) (n := fn.ntmps) (df := []) (a := ⟨vs.toArray ++ Array.replicate (fn.ntmps - vs.toArray.size) undef, []⟩) (by rw [hpins]; exact h) hrel (by simp only [Array.size_append, Array.size_replicate, List.size_toArray]; simp only at hlen; omega) rfl
          have hw1 : g1.m.w = m.w := by rw [m1]
          rw [hw1] at hwp
          refine wp_mono hwp ?_
          rintro e a' w' ⟨x, E, S, g, rfl, q1, q2, q3, q4, q5⟩
          have fin : retQ args rs res outs .normal E S → a'.defers = [] ∧ ∃ v, (results fn a'.tmps).run P g.m.w = .ok v g.m.w ∧ ∃ v' im' b1 b2, Ending.returned v = .returned v' ∧ After m bs ⟨g.m.w, im'⟩ (b1 ++ b2) ∧ R ⟨g.m.w, im'⟩ res b1 v' ∧ RArgs ⟨g.m.w, im'⟩ outs b2 vs := by
            intro hq
            refine ⟨q3, ?_⟩
            simp only [retQ] at hq
            split at hq
            · rename_i p0 L hL
              split at hq
              · rename_i p1 ds S1 hT
                split at hq
                · rename_i p2 outs0 lns S2 hO
                  obtain ⟨hp0', hp1, hp2, hd, ha⟩ := hq
                  obtain ⟨us, e1, e2⟩ := cRess_ok q1.rel hrs hL hp0'
                  refine ⟨_, results_run e1, ?_⟩
                  obtain ⟨g2, b1, m2, r2, t2, hrl⟩ := takeAs_ok (RCF.of q1.rel.rc) e2 hT hp1
                  simp only [List.nil_append] at r2
                  have hle : MemLe m g2.m := by
                    refine ⟨r2.rc.size, fun b hb => ?_⟩
                    have hlt : b < m.w.heap.size := by
                      rcases Nat.lt_or_ge b m.w.heap.size with h1 | h1
                      · exact h1
                      · rw [hwf b h1] at hb; cases hb
                    have hnb : b ∉ bs := fun hmm => by rw [him b hmm] at hb; cases hb
                    have := r2.rc.keep b hlt hnb
                    exact ⟨this.2.trans hb, this.1⟩
                  have hra := outL_ok (S := S1) (g := g2) hle 0 args bs vs hargs (q1.pin.tr t2)
                  obtain ⟨g3, b2, m3, r3, t3, hro, _⟩ := argsG_ok r2.rc rfl r2 hra hra (by rw [outL_pubs]; simp) hO hp2
                  refine ⟨_, g.m.im, b1, b2, rfl, ?_, ?_, ?_⟩
                  · have hmm : g3.m = g.m := m3.trans m2
                    have r3' := r3
                    exact {
                      wf := q1.rel.rc.wf
                      size := q1.rel.rc.size
                      nodup := r3.nodup
                      range := fun b hb => by
                        have := r3.range b hb
                        rw [hmm] at this
                        exact ⟨this.1, this.2.symm⟩
                      keep := fun b hb hB => q1.rel.rc.keep b hb hB
                      os := q1.rel.rc.os
                      tape := q1.rel.rc.tape
                      output := q1.rel.rc.output }
                  · refine hd _ _ _ ?_
                    match ds, us, hrl with
                    | [], us, hrl => simp only [RL] at hrl; obtain ⟨rfl, rfl⟩ := hrl; simp only [single, R, resV, RL]; exact ⟨[], rfl, trivial, rfl⟩
                    | [d], us, hrl =>
                      simp only [RL] at hrl
                      obtain ⟨u, us', c1, c2, rfl, rfl, k1, rfl, rfl⟩ := hrl
                      simpa [single, resV] using k1
                    | d :: d' :: ds, us, hrl =>
                      have hrl' := hrl
                      simp only [RL] at hrl'
                      obtain ⟨u, us', c1, c2, rfl, rfl, k1, u', us'', c3, c4, rfl, rfl, _⟩ := hrl'
                      simp only [single, R, resV]
                      exact ⟨_, rfl, hrl⟩
                  · refine ha.ok ?_
                    rw [m2] at hro
                    exact hro
                · exact hq.elim
              · exact hq.elim
            · exact hq.elim
          cases e <;> cases x <;> first
            | (exact q5.elim; done)
            | (exact q4.elim; done)
            | exact fin q4
        · cases hc
    · cases hc
  · cases hc

end Go.Proofs.YtcaemkcglflmnaaDoor.Vm
