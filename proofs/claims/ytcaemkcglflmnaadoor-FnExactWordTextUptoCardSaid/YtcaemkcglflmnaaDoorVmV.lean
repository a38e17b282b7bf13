/-
  The abstract machine, part V: ways through compact code, reckoned with a list of facts that were proved beforehand. Conditions: none.
-/
import Derived.Test.YtcaemkcglflmnaaDoorVmU
namespace Go.Proofs.YtcaemkcglflmnaaDoor.Vm
open Go Go.RowKit
variable [Tbl]
set_option linter.unusedSimpArgs false
set_option linter.unusedVariables false
set_option linter.unusedSectionVars false

/-- What stands behind a piece of code. -/
inductive SK where
  | sq (b : CC)
  | blk (id : Nat)
  | lp (j : Nat)
/-- Where a way ends. -/
inductive Fin where
  | go (c : CC) (k : List SK) (t : St)
  | back (j : Nat) (t : St)
  | done
/-- A function's frame: its arguments, result slots, result, and what it leaves of its arguments. -/
structure FC where
  args : List A
  crs : List CR
  res : D
  outs : List A
abbrev FC.pn (fc : FC) : List Nat := pinIds 0 fc.args
abbrev FC.R (fc : FC) : Ex → Env → Store → Prop := retQ fc.args fc.crs fc.res fc.outs

def kq (P : Program) (fc : FC) (I : Nat → St → Prop) : List SK → Ex → Env → Store → Prop
  | [] => fc.R
  | .sq b :: k => thenX (kq P fc I k) fun E S => ∃ s : St, Weak fc.pn (E, S) s ∧ wpx P fc.pn b (kq P fc I k) s.1 s.2
  | .blk id :: k => blockX id (kq P fc I k)
  | .lp j :: k => thenX (kq P fc I k) fun E S => ∃ t : St, Weak fc.pn (E, S) t ∧ I j t
def FinP (P : Program) (fc : FC) (I : Nat → St → Prop) : Fin → Prop
  | .go c k t => wpx P fc.pn c (kq P fc I k) t.1 t.2
  | .back j t => I j t
  | .done => True

section
variable {P : Program}
abbrev Go1 (P : Program) := CC → List SK → Env → Store → List (Or P) → Option (Out Fin)

def xGh {φ : Type} : List (Or P) → Env → Store → (Env → Store → List (Or P) → Option (Out φ)) → Option (Out φ)
  | [], E, S, k => k E S []
  | o :: os, E, S, k => (match o with
    | .gpub id (rows := r0) (rows' := r1) _ => (match sget S id with
      | some (.slc st (.sl true sz rows)) => eqc (.r rows) (.r r0) (xGh os E ((id, .slc st (.sl false sz r1)) :: S) k)
      | _ => none)
    | .gle id (d := d) (d' := d') _ => (match sget S id with
      | some (.slc st d0) => eqc (.d d0) (.d d) (xGh os E ((id, .slc st d') :: S) k)
      | _ => none)
    | .gso t (n := n) (m := m) _ => (match eget E t with
      | .so id st n0 => eqc (.n n0) (.n n) (xGh os ((t, .so id st m) :: E) S k)
      | _ => none)
    | .gsb b j (n := n) (m := m) _ => (match sget S b with
      | some (.box cells) => (match cells[j]? with
        | some (.so id st n0) => eqc (.n n0) (.n n) (xGh os E ((b, .box (cells.set j (.so id st m))) :: S) k)
        | _ => none)
      | _ => none)
    | o => k E S (o :: os))
theorem Weak.eqv {pn : List Nat} {s t : St} (e : Eqv s t) : Weak pn s t := fun F pv g tm hpv hr => ⟨g, rfl, hr.eqv e⟩
theorem xGh_ok {φ : Type} {pn : List Nat} {f : φ} : ∀ {os : List (Or P)} {E : Env} {S : Store} {k : Env → Store → List (Or P) → Option (Out φ)}, Good (xGh os E S k) f → ∃ E' S' os', Weak pn (E, S) (E', S') ∧ Good (k E' S' os') f
  | [], E, S, k, h => ⟨E, S, [], Weak.refl _, h⟩
  | o :: os, E, S, k, h => by
    simp only [xGh] at h
    split at h
    · rename_i id r0 r1 hpub
      split at h
      · rename_i st sz rows hs
        replace h := good_eqc h; obtain ⟨h1, h⟩ := h
        obtain rfl := Cmp.r.inj h1
        subst hpub
        obtain ⟨E', S', os', h2, h3⟩ := xGh_ok (pn := pn) h
        have e : pubOne S id = (id, .slc st (.sl false sz (D.pl.plLL rows))) :: S := by simp only [pubOne, hs]
        exact ⟨E', S', os', (e ▸ Weak.pub E S id).trans h2, h3⟩
      · exact (good_none h).elim
    · rename_i id d d' hd
      split at h
      · rename_i st d0 hs
        replace h := good_eqc h; obtain ⟨h1, h⟩ := h
        obtain rfl := Cmp.d.inj h1
        obtain ⟨E', S', os', h2, h3⟩ := xGh_ok (pn := pn) h
        exact ⟨E', S', os', (Weak.gle E S hs hd.1 hd.2.1 hd.2.2.1 hd.2.2.2).trans h2, h3⟩
      · exact (good_none h).elim
    · rename_i t n m hnm
      split at h
      · rename_i id st n0 he
        replace h := good_eqc h; obtain ⟨h1, h⟩ := h
        obtain rfl := Cmp.n.inj h1
        subst hnm
        obtain ⟨E', S', os', h2, h3⟩ := xGh_ok (pn := pn) h
        refine ⟨E', S', os', (Weak.eqv (s := (E, S)) (t := ((t, .so id st n0) :: E, S)) ⟨fun u => ?_, fun _ => rfl⟩).trans h2, h3⟩
        simp only [eget]
        split
        · rename_i hu; subst hu; exact he
        · rfl
      · exact (good_none h).elim
    · rename_i b j n m hnm
      split at h
      · rename_i cells hs
        split at h
        · rename_i id st n0 he
          replace h := good_eqc h; obtain ⟨h1, h⟩ := h
          obtain rfl := Cmp.n.inj h1
          subst hnm
          obtain ⟨E', S', os', h2, h3⟩ := xGh_ok (pn := pn) h
          refine ⟨E', S', os', (Weak.eqv (s := (E, S)) (t := (E, (b, .box (cells.set j (.so id st n0))) :: S)) ⟨fun _ => rfl, fun u => ?_⟩).trans h2, h3⟩
          have e : cells.set j (.so id st n0) = cells := by
            apply List.ext_getElem? 
            intro i
            rw [List.getElem?_set]
            split
            · rename_i hi
              subst hi
              rw [he]
              simp [(List.getElem?_eq_some_iff.1 he).1]
            · rfl
          simp only
          by_cases hu : u = b
          · subst hu; rw [sget_cons_eq, e]; exact hs
          · rw [sget_cons_ne hu]
        · exact (good_none h).elim
      · exact (good_none h).elim
    · exact ⟨E, S, _, Weak.refl _, h⟩

/-- Code is entered, or the way ends here. -/
def xEnter (pn : List Nat) (go : Go1 P) (b : CC) (k : List SK) (E : Env) (S : Store) (os : List (Or P)) : Option (Out Fin) :=
  xGh os E S fun E S os => (match os with
    | .cut ρ t :: _ => wkSt pn ρ (E, S) t (some ⟨[], [], .go b k t⟩)
    | .pass n :: os => go b k E S (match n with | 0 => os | 1 => os | n + 1 => .pass n :: os)
    | os => go b k E S os)

def xRval (E : Env) (S : Store) (c : CR) (k : AV → Option (Out Fin)) : Option (Out Fin) := match c with
  | .tmp t => k (eget E t)
  | .cell t n agg => (match eget E t with
    | .ob id off => (match sget S id with
      | some (.box cells) => (match agg with
        | true => chk (Nat.ble (off + n) cells.length) (k (.ag ((cells.drop off).take n)))
        | false => (match cells[off]? with | some c => k c | none => none))
      | _ => none)
    | _ => none)
theorem xRval_ok {E : Env} {S : Store} {c : CR} {k : AV → Option (Out Fin)} {f : Fin} (h : Good (xRval E S c k) f) : ∃ p a, rval E S c = some (p, a) ∧ p ∧ Good (k a) f := by
  unfold xRval at h
  split at h
  · exact ⟨_, _, rfl, trivial, h⟩
  · rename_i t n agg
    split at h
    · rename_i id off he
      split at h
      · rename_i cells hs
        split at h
        · replace h := good_chk h; obtain ⟨h1, h⟩ := h
          exact ⟨off + n ≤ cells.length, _, by simp only [rval, he, hs, if_true], by simpa using h1, h⟩
        · split at h
          · rename_i c hc
            exact ⟨True, c, by simp only [rval, he, hs, hc, Bool.false_eq_true, if_false], trivial, h⟩
          · exact (good_none h).elim
      · exact (good_none h).elim
    · exact (good_none h).elim
def xRvals (E : Env) (S : Store) : List CR → (List AV → Option (Out Fin)) → Option (Out Fin)
  | [], k => k []
  | c :: l, k => xRval E S c fun a => xRvals E S l fun r => k (a :: r)
theorem xRvals_ok {E : Env} {S : Store} {f : Fin} : ∀ {l : List CR} {k : List AV → Option (Out Fin)}, Good (xRvals E S l k) f → ∃ p L, rvals E S l = some (p, L) ∧ p ∧ Good (k L) f
  | [], k, h => ⟨True, [], rfl, trivial, h⟩
  | c :: l, k, h => by
    simp only [xRvals] at h
    obtain ⟨p, a, h1, hp, h⟩ := xRval_ok h
    obtain ⟨q, r, h2, hq, h⟩ := xRvals_ok h
    exact ⟨p ∧ q, a :: r, by simp only [rvals, h1, h2], ⟨hp, hq⟩, h⟩
def xTakeA (S : Store) (a : AV) (k : D → Store → Option (Out Fin)) : Option (Out Fin) := match a with
  | .ag l => xLendCs S l fun ds S1 => k (.ag ds) S1
  | .cl g l => xLendCs S l fun ds S1 => k (.cl g ds) S1
  | a => xLendC S a k
theorem xTakeA_ok {S : Store} {a : AV} {k : D → Store → Option (Out Fin)} {f : Fin} (h : Good (xTakeA S a k) f) : ∃ p d S', takeA S a = some (p, d, S') ∧ p ∧ Good (k d S') f := by
  unfold xTakeA at h
  split at h
  · obtain ⟨p, ds, S1, h1, hp, h⟩ := xLendCs_ok h
    exact ⟨p, _, _, by simp only [takeA, h1], hp, h⟩
  · obtain ⟨p, ds, S1, h1, hp, h⟩ := xLendCs_ok h
    exact ⟨p, _, _, by simp only [takeA, h1], hp, h⟩
  · rename_i hn1 hn2
    obtain ⟨p, d, S1, h1, hp, h⟩ := xLendC_ok h
    refine ⟨p, d, S1, ?_, hp, h⟩
    cases a with
    | ag l => exact absurd rfl (hn1 _)
    | cl g l => exact absurd rfl (hn2 _ _)
    | _ => simpa only [takeA] using h1
def xTakeAs : Store → List AV → (List D → Store → Option (Out Fin)) → Option (Out Fin)
  | S, [], k => k [] S
  | S, a :: l, k => xTakeA S a fun d S1 => xTakeAs S1 l fun ds S2 => k (d :: ds) S2
theorem xTakeAs_ok {f : Fin} : ∀ {l : List AV} {S : Store} {k : List D → Store → Option (Out Fin)}, Good (xTakeAs S l k) f → ∃ p ds S', takeAs S l = some (p, ds, S') ∧ p ∧ Good (k ds S') f
  | [], S, k, h => ⟨True, [], S, rfl, trivial, h⟩
  | a :: l, S, k, h => by
    simp only [xTakeAs] at h
    obtain ⟨p, d, S1, h1, hp, h⟩ := xTakeA_ok h
    obtain ⟨q, ds, S2, h2, hq, h⟩ := xTakeAs_ok h
    exact ⟨p ∧ q, d :: ds, S2, by simp only [takeAs, h1, h2], ⟨hp, hq⟩, h⟩

def xRet (fc : FC) (E : Env) (S : Store) (os : List (Or P)) : Option (Out Fin) :=
  xRvals E S fc.crs fun L => xTakeAs S L fun ds S1 => xArgsG S1 S1 (outL 0 fc.args) os fun outs0 _ _ os => (match os with
    | .fin0 :: _ => eqc (.d (single ds)) (.d fc.res) (eqc (.a outs0) (.a fc.outs) (some ⟨[], [], .done⟩))
    | .finr (d := d) (res := res) _ :: _ => eqc (.d (single ds)) (.d d) (eqc (.d fc.res) (.d res) (eqc (.a outs0) (.a fc.outs) (some ⟨[], [], .done⟩)))
    | .fin (d := d) (res := res) (o := o) (os := o') _ _ :: _ => eqc (.d (single ds)) (.d d) (eqc (.d fc.res) (.d res) (eqc (.a outs0) (.a o) (eqc (.a fc.outs) (.a o') (some ⟨[], [], .done⟩))))
    | _ => none)
theorem xRet_ok {fc : FC} {E : Env} {S : Store} {os : List (Or P)} {f : Fin} (h : Good (xRet fc E S os) f) : fc.R .ret E S ∧ fc.R .normal E S := by
  unfold xRet at h
  obtain ⟨p0, L, h0, hp0, h⟩ := xRvals_ok h
  obtain ⟨p1, ds, S1, h1, hp1, h⟩ := xTakeAs_ok h
  obtain ⟨p2, outs0, lns, S2, h2, hp2, os', h⟩ := xArgsG_ok h
  have fin : DLe (single ds) fc.res → ALes outs0 fc.outs → fc.R .ret E S ∧ fc.R .normal E S := fun hd ho => by
    simp only [FC.R, retQ, h0, h1, h2]
    exact ⟨⟨hp0, hp1, hp2, hd, ho⟩, hp0, hp1, hp2, hd, ho⟩
  split at h
  · replace h := good_eqc h; obtain ⟨h3, h⟩ := h
    replace h := good_eqc h; obtain ⟨h4, h⟩ := h
    have e1 := Cmp.d.inj h3
    have e2 := Cmp.a.inj h4
    exact fin (e1 ▸ DLe.refl _) (e2 ▸ ALes.refl _)
  · rename_i d res hd os2
    replace h := good_eqc h; obtain ⟨h3, h⟩ := h
    replace h := good_eqc h; obtain ⟨h4, h⟩ := h
    replace h := good_eqc h; obtain ⟨h5, h⟩ := h
    have e1 := Cmp.d.inj h3
    have e2 := Cmp.d.inj h4
    have e3 := Cmp.a.inj h5
    exact fin (by rw [e1, e2]; exact hd) (e3 ▸ ALes.refl _)
  · rename_i d res o o' hd ho os2
    replace h := good_eqc h; obtain ⟨h3, h⟩ := h
    replace h := good_eqc h; obtain ⟨h4, h⟩ := h
    replace h := good_eqc h; obtain ⟨h5, h⟩ := h
    replace h := good_eqc h; obtain ⟨h6, h⟩ := h
    have e1 := Cmp.d.inj h3
    have e2 := Cmp.d.inj h4
    have e3 := Cmp.a.inj h5
    have e4 := Cmp.a.inj h6
    exact fin (by rw [e1, e2]; exact hd) (by rw [e3, e4]; exact ho)
  · exact (good_none h).elim

def xPop (fc : FC) (go : Go1 P) : List SK → Env → Store → List (Or P) → Option (Out Fin)
  | [], E, S, os => xRet fc E S os
  | .sq b :: k, E, S, os => xEnter fc.pn go b k E S os
  | .blk _ :: k, E, S, os => xPop fc go k E S os
  | .lp j :: _, E, S, os => xGh os E S fun E S os => (match os with
    | .stop ρ t :: _ => wkSt fc.pn ρ (E, S) t (some ⟨[], [], .back j t⟩)
    | _ => none)
def xExit (fc : FC) (go : Go1 P) (id : Nat) : List SK → Env → Store → List (Or P) → Option (Out Fin)
  | [], _, _, _ => none
  | .sq _ :: k, E, S, os => xExit fc go id k E S os
  | .blk i :: k, E, S, os => (match id == i with
    | true => xPop fc go k E S os
    | false => xExit fc go id k E S os)
  | .lp _ :: k, E, S, os => xExit fc go id k E S os
def X (P : Program) (fc : FC) : Nat → Go1 P
  | 0, _, _, _, _, _ => none
  | n + 1, c, k, E, S, os => (match c with
    | .skip => xPop fc (X P fc n) k E S os
    | .reg ops => xReg ops E S os fun E S os => xPop fc (X P fc n) k E S os
    | .drw ops un => xRegD ops E S [] os fun E S fps os => chk (indepAll fps.reverse un) (xPop fc (X P fc n) k E S os)
    | .seq a b => X P fc n a (.sq b :: k) E S os
    | .cond c a b => xB (ev E c) os fun t os => xEnter fc.pn (X P fc n) (match t with | true => a | false => b) k E S os
    | .block id a => X P fc n a (.blk id :: k) E S os
    | .loop a => xGh os E S fun E S os => (match os with
      | .stop ρ t :: _ => wkSt fc.pn ρ (E, S) t (some ⟨[], [], .go (.loop a) k t⟩)
      | _ => none)
    | .exit id => xExit fc (X P fc n) id k E S os
    | .ret => xRet fc E S os)

def GoOk (fc : FC) (I : Nat → St → Prop) (go : Go1 P) : Prop := ∀ {c : CC} {k : List SK} {E : Env} {S : Store} {os : List (Or P)} {f : Fin}, Good (go c k E S os) f → FinP P fc I f → wpx P fc.pn c (kq P fc I k) E S
theorem kq_ret {fc : FC} {I : Nat → St → Prop} : ∀ {k : List SK} {E : Env} {S : Store}, fc.R .ret E S → kq P fc I k .ret E S
  | [], _, _, h => h
  | .sq _ :: k, _, _, h => by simp only [kq, thenX]; exact kq_ret h
  | .blk _ :: k, _, _, h => by simp only [kq, blockX]; exact kq_ret h
  | .lp _ :: k, _, _, h => by simp only [kq, thenX]; exact kq_ret h
theorem xEnter_ok {fc : FC} {I : Nat → St → Prop} {go : Go1 P} (hg : GoOk fc I go) {b : CC} {k : List SK} {E : Env} {S : Store} {os : List (Or P)} {f : Fin} (h : Good (xEnter fc.pn go b k E S os) f) (hf : FinP P fc I f) :
    ∃ s : St, Weak fc.pn (E, S) s ∧ wpx P fc.pn b (kq P fc I k) s.1 s.2 := by
  unfold xEnter at h
  obtain ⟨E', S', os', h1, h⟩ := xGh_ok (pn := fc.pn) h
  split at h
  · obtain ⟨h2, h⟩ := wkSt_ok h
    obtain rfl := good_some h
    exact ⟨_, h1.trans h2, hf⟩
  · exact ⟨_, h1, hg h hf⟩
  · exact ⟨_, h1, hg h hf⟩
theorem xPop_ok {fc : FC} {I : Nat → St → Prop} {go : Go1 P} (hg : GoOk fc I go) : ∀ {k : List SK} {E : Env} {S : Store} {os : List (Or P)} {f : Fin}, Good (xPop fc go k E S os) f → FinP P fc I f → kq P fc I k .normal E S
  | [], E, S, os, f, h, hf => (xRet_ok h).2
  | .sq b :: k, E, S, os, f, h, hf => xEnter_ok hg h hf
  | .blk id :: k, E, S, os, f, h, hf => by
    simp only [xPop] at h
    simp only [kq, blockX]
    exact xPop_ok hg h hf
  | .lp j :: k, E, S, os, f, h, hf => by
    simp only [xPop] at h
    simp only [kq, thenX]
    obtain ⟨E', S', os', h1, h⟩ := xGh_ok (pn := fc.pn) h
    split at h
    · obtain ⟨h2, h⟩ := wkSt_ok h
      obtain rfl := good_some h
      exact ⟨_, h1.trans h2, hf⟩
    · exact (good_none h).elim
theorem xExit_ok {fc : FC} {I : Nat → St → Prop} {go : Go1 P} (hg : GoOk fc I go) {id : Nat} : ∀ {k : List SK} {E : Env} {S : Store} {os : List (Or P)} {f : Fin}, Good (xExit fc go id k E S os) f → FinP P fc I f → kq P fc I k (.exit id) E S
  | [], E, S, os, f, h, hf => (good_none h).elim
  | .sq b :: k, E, S, os, f, h, hf => by
    simp only [xExit] at h
    simp only [kq, thenX]
    exact xExit_ok hg h hf
  | .blk i :: k, E, S, os, f, h, hf => by
    simp only [xExit] at h
    simp only [kq, blockX]
    split at h
    · rename_i hi
      rw [if_pos (by simpa using hi)]
      exact xPop_ok hg h hf
    · rename_i hi
      rw [if_neg (by simpa using hi)]
      exact xExit_ok hg h hf
  | .lp j :: k, E, S, os, f, h, hf => by
    simp only [xExit] at h
    simp only [kq, thenX]
    exact xExit_ok hg h hf
theorem wpx_loop_weak {pn : List Nat} {a : CC} {Q : Ex → Env → Store → Prop} {s t : St} (hw : Weak pn s t) (h : wpx P pn (.loop a) Q t.1 t.2) : wpx P pn (.loop a) Q s.1 s.2 := by
  obtain ⟨ι, T, μ, i₀, h1, h2⟩ := h
  exact ⟨ι, T, μ, i₀, hw.trans h1, h2⟩
theorem X_ok {fc : FC} {I : Nat → St → Prop} : ∀ (n : Nat), GoOk fc I (X P fc n)
  | 0, c, k, E, S, os, f, h, hf => (good_none h).elim
  | n + 1, c, k, E, S, os, f, h, hf => by
    have hg : GoOk fc I (X P fc n) := by intro c k E S os f h hf; exact X_ok n h hf
    simp only [X] at h
    cases c with
    | skip => exact xPop_ok hg h hf
    | reg ops =>
      obtain ⟨its, k1, k2, k3, os', h⟩ := xReg_ok 0 h
      exact ⟨its, k1, k2, k3, xPop_ok hg h hf⟩
    | drw ops un =>
      obtain ⟨its, k1, k2, k3, os', h⟩ := xRegD_ok 0 h
      replace h := good_chk h; obtain ⟨h1, h⟩ := h
      simp only [List.append_nil, List.reverse_reverse] at h1
      exact ⟨its, k1, k2, k3, h1, xPop_ok hg h hf⟩
    | seq a b => exact hg (c := a) (k := .sq b :: k) h hf
    | cond c a b =>
      obtain ⟨t, os', h1, h⟩ := xB_ok h
      have h2 := xEnter_ok hg h hf
      simp only [wpx, h1]
      cases t with
      | true => exact ⟨fun _ => h2, fun e => by cases e⟩
      | false => exact ⟨fun e => (by cases e), fun _ => h2⟩
    | block id a => exact hg (c := a) (k := .blk id :: k) h hf
    | loop a =>
      simp only at h
      obtain ⟨E', S', os', h1, h⟩ := xGh_ok (pn := fc.pn) h
      split at h
      · obtain ⟨h2, h⟩ := wkSt_ok h
        obtain rfl := good_some h
        exact wpx_loop_weak (h1.trans h2) hf
      · exact (good_none h).elim
    | exit id => exact xExit_ok hg h hf
    | ret => exact kq_ret (xRet_ok h).1

def fitL (m : Option (Out Fin)) : Option (List Cmp × Fin) := match m with | some o => some (o.l, o.fin) | none => none
def fitR (m : Option (Out Fin)) (f : Fin) : Option (List Cmp × Fin) := match m with | some o => some (o.r, f) | none => some ([], f)
/-- The check of a way: what was reckoned is what the facts tell. -/
theorem fits {m : Option (Out Fin)} {f : Fin} (h : fitL m = fitR m f) : Good m f := by
  cases m with
  | none => cases h
  | some o =>
    simp only [fitL, fitR, Option.some.injEq, Prod.mk.injEq] at h
    exact ⟨o, rfl, h.1, h.2⟩

/-- A way that ends at code that is known. -/
theorem way {fc : FC} {I : Nat → St → Prop} (n : Nat) (os : List (Or P)) {c : CC} {k : List SK} {s : St} {c' : CC} {k' : List SK} {t : St} (hf : wpx P fc.pn c' (kq P fc I k') t.1 t.2) (h : fitL (X P fc n c k s.1 s.2 os) = fitR (X P fc n c k s.1 s.2 os) (.go c' k' t)) : wpx P fc.pn c (kq P fc I k) s.1 s.2 :=
  X_ok n (fits h) hf
/-- A way that ends with a round of a loop. -/
theorem wayB {fc : FC} {I : Nat → St → Prop} (n : Nat) (os : List (Or P)) {c : CC} {k : List SK} {s : St} (j : Nat) {t : St} (hf : I j t) (h : fitL (X P fc n c k s.1 s.2 os) = fitR (X P fc n c k s.1 s.2 os) (.back j t)) : wpx P fc.pn c (kq P fc I k) s.1 s.2 :=
  X_ok n (fits h) hf
/-- A way that ends with the function. -/
theorem wayR {fc : FC} {I : Nat → St → Prop} (n : Nat) (os : List (Or P)) {c : CC} {k : List SK} {s : St} (h : fitL (X P fc n c k s.1 s.2 os) = fitR (X P fc n c k s.1 s.2 os) .done) : wpx P fc.pn c (kq P fc I k) s.1 s.2 :=
  X_ok n (fits h) trivial

/-- A loop that is a function of fuel. -/
theorem loopN {fc : FC} {I : Nat → St → Prop} {j : Nat} {a : CC} {k : List SK} {V ρ : Type} (L : Nat → V → Option ρ) (T : V → St) (r : ρ) (h0 : ∀ v, L 0 v ≠ some r)
    (hb : ∀ n v, L (n + 1) v = some r → ∀ I' : Nat → St → Prop, (∀ i, i ≠ j → I' i = I i) → (∀ v', L n v' = some r → I' j (T v')) → wpx P fc.pn a (kq P fc I' (.lp j :: k)) (T v).1 (T v).2)
    (hk : ∀ I' : Nat → St → Prop, (∀ i, i ≠ j → I' i = I i) → kq P fc I' k = kq P fc I k) :
    ∀ n v, L n v = some r → wpx P fc.pn (.loop a) (kq P fc I k) (T v).1 (T v).2 := by
  intro n v h
  refine ⟨{p : Nat × V // L p.1 p.2 = some r}, fun p => T p.1.2, fun p => p.1.1, ⟨(n, v), h⟩, Weak.refl _, ?_⟩
  rintro ⟨⟨m, u⟩, hu⟩
  cases m with
  | zero => exact absurd hu (h0 u)
  | succ m =>
    let I' : Nat → St → Prop := fun i t => if i = j then ∃ v', L m v' = some r ∧ t = T v' else I i t
    have hne : ∀ i, i ≠ j → I' i = I i := fun i hi => by funext t; simp [I', hi]
    have h1 := hb m u hu I' hne (fun v' hv' => by simp only [I', if_true]; exact ⟨v', hv', rfl⟩)
    have e : kq P fc I' (.lp j :: k) = thenX (kq P fc I k) fun E S => ∃ t : St, Weak fc.pn (E, S) t ∧ I' j t := by simp only [kq, hk I' hne]
    rw [e] at h1
    have mono : ∀ (Q Q' : Ex → Env → Store → Prop), (∀ x E S, Q x E S → Q' x E S) → ∀ {c : CC} {E : Env} {S : Store}, wpx P fc.pn c Q E S → wpx P fc.pn c Q' E S := by
      intro Q Q' hq c
      induction c generalizing Q Q' with
      | skip => intro E S h; exact hq _ _ _ h
      | reg ops => rintro E S ⟨its, a1, a2, a3, a4⟩; exact ⟨its, a1, a2, a3, hq _ _ _ a4⟩
      | drw ops un => rintro E S ⟨its, a1, a2, a3, a4, a5⟩; exact ⟨its, a1, a2, a3, a4, hq _ _ _ a5⟩
      | seq a b iha ihb =>
        intro E S h
        refine iha _ _ ?_ h
        intro x E S h
        cases x with
        | normal => obtain ⟨s, b1, b2⟩ := h; exact ⟨s, b1, ihb _ _ hq b2⟩
        | exit i => exact hq _ _ _ h
        | ret => exact hq _ _ _ h
      | cond c a b iha ihb =>
        intro E S h
        simp only [wpx] at h ⊢
        split at h
        · exact ⟨fun e => by obtain ⟨s, b1, b2⟩ := h.1 e; exact ⟨s, b1, iha _ _ hq b2⟩, fun e => by obtain ⟨s, b1, b2⟩ := h.2 e; exact ⟨s, b1, ihb _ _ hq b2⟩⟩
        · exact h.elim
      | block id a ih =>
        intro E S h
        refine ih _ _ ?_ h
        intro x E S h
        cases x with
        | normal => exact hq _ _ _ h
        | exit i =>
          simp only [blockX] at h ⊢
          split at h
          · rename_i hi; rw [if_pos hi]; exact hq _ _ _ h
          · rename_i hi; rw [if_neg hi]; exact hq _ _ _ h
        | ret => exact hq _ _ _ h
      | loop a ih =>
        rintro E S ⟨ι, T', μ, i0, b1, b2⟩
        refine ⟨ι, T', μ, i0, b1, fun i => ih _ _ ?_ (b2 i)⟩
        intro x E S h
        cases x with
        | normal => exact h
        | exit i => exact hq _ _ _ h
        | ret => exact hq _ _ _ h
      | exit id => intro E S h; exact hq _ _ _ h
      | ret => intro E S h; exact hq _ _ _ h
    refine mono _ _ ?_ h1
    intro x E S h
    cases x with
    | normal =>
      obtain ⟨t, b1, b2⟩ := h
      simp only [I', if_true] at b2
      obtain ⟨v', b3, rfl⟩ := b2
      exact ⟨⟨(m, v'), b3⟩, Nat.lt_succ_self m, b1⟩
    | exit i => exact h
    | ret => exact h

def lps : List SK → List Nat
  | [] => []
  | .lp j :: k => j :: lps k
  | .sq _ :: k => lps k
  | .blk _ :: k => lps k
theorem kq_congr {fc : FC} {I I' : Nat → St → Prop} : ∀ {k : List SK}, (∀ i ∈ lps k, I' i = I i) → kq P fc I' k = kq P fc I k
  | [], h => rfl
  | .sq b :: k, h => by simp only [kq, kq_congr (k := k) h]
  | .blk id :: k, h => by simp only [kq, kq_congr (k := k) h]
  | .lp j :: k, h => by
    simp only [kq, kq_congr (k := k) (fun i hi => h i (by simp [lps, hi])), h j (by simp [lps])]
theorem notIn_ne {j : Nat} {l : List Nat} (h : l.contains j = false) : ∀ i ∈ l, i ≠ j := by
  rintro i hi rfl
  simp [hi] at h

/-- A function, from its body's ways. -/
theorem soundX (hm : P.follows .mixedOrders = true) {f : Nat} {cf : CF} (hc : compileF P f = some cf) {fc : FC} (hlen : Nat.ble fc.args.length cf.n = true) {S₀ : Store} (hS : backG (holS (pinIds 0 fc.args)) fc.args (lentsOf (pinIds 0 fc.args)) = some S₀) (hcr : fc.crs = cf.res)
    (h : wpx P fc.pn cf.body (kq P fc (fun _ _ => False) []) (enterE 0 fc.args) S₀) : Sound P f fc.args fc.res fc.outs := by
  refine sound_of hm hc (Nat.le_of_ble_eq_true hlen) hS ?_
  rw [← hcr]
  exact h
end

end Go.Proofs.YtcaemkcglflmnaaDoor.Vm
