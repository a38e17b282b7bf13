/-
  The abstract machine, part U: calls and all operations, reckoned with a list of facts that were proved beforehand. Conditions: none.
-/
import Derived.Test.YtcaemkcglflmnaaDoorVmT
namespace Go.Proofs.YtcaemkcglflmnaaDoor.Vm
open Go Go.RowKit
variable [Tbl]
set_option linter.unusedSimpArgs false
set_option linter.unusedVariables false
set_option linter.unusedSectionVars false

section
variable {φ : Type} {P : Program}

def xLendC (S : Store) (a : AV) (k : D → Store → Option (Out φ)) : Option (Out φ) := match a with
  | .pu d => k d S
  | .so id st n => (match sget S id with
    | some (.slc st' (.sl true sz rows)) => chk (st == st') (eqc (.n n) (.n rows.length) (k (.sl true sz rows) ((id, .slc (st' + 1) (.sl true 0 [])) :: S)))
    | some (.slc st' (.sl false sz rows)) => chk (st == st') (eqc (.n n) (.n rows.length) (k (.sl false sz rows) S))
    | _ => none)
  | _ => none
theorem xLendC_ok {S : Store} {a : AV} {k : D → Store → Option (Out φ)} {f : φ} (h : Good (xLendC S a k) f) : ∃ p d S', lendC S a = some (p, d, S') ∧ p ∧ Good (k d S') f := by
  unfold xLendC at h
  split at h
  · exact ⟨_, _, _, rfl, trivial, h⟩
  · rename_i id st n
    split at h
    · rename_i st' sz rows hs
      replace h := good_chk h; obtain ⟨h1, h⟩ := h
      replace h := good_eqc h; obtain ⟨h2, h⟩ := h
      exact ⟨st = st' ∧ n = rows.length, _, _, by simp only [lendC, hs], ⟨by simpa using h1, by simpa using h2⟩, h⟩
    · rename_i st' sz rows hs
      replace h := good_chk h; obtain ⟨h1, h⟩ := h
      replace h := good_eqc h; obtain ⟨h2, h⟩ := h
      exact ⟨st = st' ∧ n = rows.length, _, _, by simp only [lendC, hs], ⟨by simpa using h1, by simpa using h2⟩, h⟩
    · exact (good_none h).elim
  · exact (good_none h).elim
def xLendCs (S : Store) : List AV → (List D → Store → Option (Out φ)) → Option (Out φ)
  | [], k => k [] S
  | a :: l, k => xLendC S a fun d S1 => xLendCs S1 l fun ds S2 => k (d :: ds) S2
theorem xLendCs_ok {f : φ} : ∀ {l : List AV} {S : Store} {k : List D → Store → Option (Out φ)}, Good (xLendCs S l k) f → ∃ p ds S', lendCs S l = some (p, ds, S') ∧ p ∧ Good (k ds S') f
  | [], S, k, h => ⟨True, [], S, rfl, trivial, h⟩
  | a :: l, S, k, h => by
    simp only [xLendCs] at h
    obtain ⟨p, d, S1, h1, hp, h⟩ := xLendC_ok h
    obtain ⟨q, ds, S2, h2, hq, h⟩ := xLendCs_ok h
    exact ⟨p ∧ q, d :: ds, S2, by simp only [lendCs, h1, h2], ⟨hp, hq⟩, h⟩

def xViewC (S : Store) (a : AV) (os : List (Or P)) (k : D → List (Or P) → Option (Out φ)) : Option (Out φ) := match a with
  | .pu d => k d os
  | .so id st n => (match sget S id with
    | some (.slc st' (.sl false sz rows)) => chk (st == st') (eqc (.n n) (.n rows.length) (k (.sl false sz rows) os))
    | some (.slc st' (.sl true sz rows)) => (match os with
      | .pub (rows := r0) (rows' := r1) _ :: os => chk (st == st') (eqc (.n n) (.n rows.length) (eqc (.r rows) (.r r0) (k (.sl false sz r1) os)))
      | _ => none)
    | _ => none)
  | _ => none
theorem xViewC_ok {S : Store} {a : AV} {os : List (Or P)} {k : D → List (Or P) → Option (Out φ)} {f : φ} (h : Good (xViewC S a os k) f) : ∃ p d, viewC S a = some (p, d) ∧ p ∧ ∃ os', Good (k d os') f := by
  unfold xViewC at h
  split at h
  · exact ⟨_, _, rfl, trivial, os, h⟩
  · rename_i id st n
    split at h
    · rename_i st' sz rows hs
      replace h := good_chk h; obtain ⟨h1, h⟩ := h
      replace h := good_eqc h; obtain ⟨h2, h⟩ := h
      exact ⟨st = st' ∧ n = rows.length, _, by simp only [viewC, hs], ⟨by simpa using h1, by simpa using h2⟩, os, h⟩
    · rename_i st' sz rows hs
      split at h
      · rename_i r0 r1 hpub os'
        replace h := good_chk h; obtain ⟨h1, h⟩ := h
        replace h := good_eqc h; obtain ⟨h2, h⟩ := h
        replace h := good_eqc h; obtain ⟨h3, h⟩ := h
        obtain rfl := Cmp.r.inj h3
        subst hpub
        exact ⟨st = st' ∧ n = rows.length, _, by simp only [viewC, hs], ⟨by simpa using h1, by simpa using h2⟩, os', h⟩
      · exact (good_none h).elim
    · exact (good_none h).elim
  · exact (good_none h).elim
def xViewCs (S : Store) : List AV → List (Or P) → (List D → List (Or P) → Option (Out φ)) → Option (Out φ)
  | [], os, k => k [] os
  | a :: l, os, k => xViewC S a os fun d os => xViewCs S l os fun ds os => k (d :: ds) os
theorem xViewCs_ok {f : φ} {S : Store} : ∀ {l : List AV} {os : List (Or P)} {k : List D → List (Or P) → Option (Out φ)}, Good (xViewCs S l os k) f → ∃ p ds, viewCs S l = some (p, ds) ∧ p ∧ ∃ os', Good (k ds os') f
  | [], os, k, h => ⟨True, [], rfl, trivial, os, h⟩
  | a :: l, os, k, h => by
    simp only [xViewCs] at h
    obtain ⟨p, d, h1, hp, os1, h⟩ := xViewC_ok h
    obtain ⟨q, ds, h2, hq, os2, h⟩ := xViewCs_ok h
    exact ⟨p ∧ q, d :: ds, by simp only [viewCs, h1, h2], ⟨hp, hq⟩, os2, h⟩
def xView (S : Store) (a : AV) (os : List (Or P)) (k : D → List (Or P) → Option (Out φ)) : Option (Out φ) := match a with
  | .ag l => xViewCs S l os fun ds os => k (.ag ds) os
  | .cl f l => xViewCs S l os fun ds os => k (.cl f ds) os
  | .pu d => k d os
  | .so id st n => xViewC S (.so id st n) os k
  | _ => none
theorem xView_ok {S : Store} {a : AV} {os : List (Or P)} {k : D → List (Or P) → Option (Out φ)} {f : φ} (h : Good (xView S a os k) f) : ∃ p d, view S a = some (p, d) ∧ p ∧ ∃ os', Good (k d os') f := by
  unfold xView at h
  split at h
  · obtain ⟨p, ds, h1, hp, os', h⟩ := xViewCs_ok h
    exact ⟨p, _, by simp only [view, h1], hp, os', h⟩
  · obtain ⟨p, ds, h1, hp, os', h⟩ := xViewCs_ok h
    exact ⟨p, _, by simp only [view, h1], hp, os', h⟩
  · exact ⟨_, _, rfl, trivial, os, h⟩
  · obtain ⟨p, d, h1, hp, os', h⟩ := xViewC_ok h
    exact ⟨p, d, by simpa only [view] using h1, hp, os', h⟩
  · exact (good_none h).elim
def xViews (S : Store) : List AV → List (Or P) → (List D → List (Or P) → Option (Out φ)) → Option (Out φ)
  | [], os, k => k [] os
  | a :: l, os, k => xView S a os fun d os => xViews S l os fun ds os => k (d :: ds) os
theorem xViews_ok {f : φ} {S : Store} : ∀ {l : List AV} {os : List (Or P)} {k : List D → List (Or P) → Option (Out φ)}, Good (xViews S l os k) f → ∃ p ds, views S l = some (p, ds) ∧ p ∧ ∃ os', Good (k ds os') f
  | [], os, k, h => ⟨True, [], rfl, trivial, os, h⟩
  | a :: l, os, k, h => by
    simp only [xViews] at h
    obtain ⟨p, d, h1, hp, os1, h⟩ := xView_ok h
    obtain ⟨q, ds, h2, hq, os2, h⟩ := xViews_ok h
    exact ⟨p ∧ q, d :: ds, by simp only [views, h1, h2], ⟨hp, hq⟩, os2, h⟩

def xPubs : Store → List Nat → List (Or P) → (Store → List (Or P) → Option (Out φ)) → Option (Out φ)
  | S, [], os, k => k S os
  | S, id :: l, os, k => (match sget S id with
    | some (.slc st (.sl true sz rows)) => (match os with
      | .pub (rows := r0) (rows' := r1) _ :: os => eqc (.r rows) (.r r0) (xPubs ((id, .slc st (.sl false sz r1)) :: S) l os k)
      | _ => none)
    | _ => xPubs S l os k)
theorem xPubs_ok {f : φ} : ∀ {l : List Nat} {S : Store} {os : List (Or P)} {k : Store → List (Or P) → Option (Out φ)}, Good (xPubs S l os k) f → ∃ os', Good (k (pubAll S l) os') f
  | [], S, os, k, h => ⟨os, h⟩
  | id :: l, S, os, k, h => by
    simp only [xPubs] at h
    simp only [pubAll]
    split at h
    · rename_i st sz rows hs
      split at h
      · rename_i r0 r1 hpub os'
        replace h := good_eqc h; obtain ⟨h1, h⟩ := h
        obtain rfl := Cmp.r.inj h1
        subst hpub
        have e : pubOne S id = (id, .slc st (.sl false sz (D.pl.plLL rows))) :: S := by simp only [pubOne, hs]
        rw [e]
        exact xPubs_ok h
      · exact (good_none h).elim
    · rename_i hn
      have e : pubOne S id = S := by
        unfold pubOne
        split
        · rename_i st sz rows hs; exact absurd hs (hn _ _ _)
        · rfl
      rw [e]
      exact xPubs_ok h

def xArgG (S1 S : Store) (a : AV) (os : List (Or P)) (k : A → List (Nat × List AV) → Store → List (Or P) → Option (Out φ)) : Option (Out φ) := match a with
  | .ob id off => (match off, sget S id with
    | 0, some (.box cells) => xLendCs S cells fun ds S2 => k (.bx ds) [(id, cells)] ((id, .hol) :: S2) os
    | _, _ => none)
  | a => xView S1 a os fun d os => k (.v d) [] S os
theorem xArgG_ok {S1 S : Store} {a : AV} {os : List (Or P)} {k : A → List (Nat × List AV) → Store → List (Or P) → Option (Out φ)} {f : φ} (h : Good (xArgG S1 S a os k) f) :
    ∃ p x ln S', argG S1 S a = some (p, x, ln, S') ∧ p ∧ ∃ os', Good (k x ln S' os') f := by
  have fin : (∀ id off, a ≠ .ob id off) → Good (xView S1 a os fun d os => k (.v d) [] S os) f → ∃ p x ln S', argG S1 S a = some (p, x, ln, S') ∧ p ∧ ∃ os', Good (k x ln S' os') f := by
    intro hn h
    obtain ⟨p, d, h1, hp, os', h⟩ := xView_ok h
    refine ⟨p, .v d, [], S, ?_, hp, os', h⟩
    cases a with
    | ob id off => exact absurd rfl (hn id off)
    | _ => simp only [argG, h1]
  cases a with
  | ob id off =>
    simp only [xArgG] at h
    split at h
    · rename_i cells hs
      obtain ⟨p, ds, S2, h1, hp, h⟩ := xLendCs_ok h
      exact ⟨p, _, _, _, by simp only [argG, hs, h1], hp, os, h⟩
    · exact (good_none h).elim
  | _ => exact fin (by simp) h
def xArgsG (S1 : Store) : Store → List AV → List (Or P) → (List A → List (Nat × List AV) → Store → List (Or P) → Option (Out φ)) → Option (Out φ)
  | S, [], os, k => k [] [] S os
  | S, a :: l, os, k => xArgG S1 S a os fun x ln S2 os => xArgsG S1 S2 l os fun xs lns S3 os => k (x :: xs) (ln ++ lns) S3 os
theorem xArgsG_ok {f : φ} {S1 : Store} : ∀ {l : List AV} {S : Store} {os : List (Or P)} {k : List A → List (Nat × List AV) → Store → List (Or P) → Option (Out φ)}, Good (xArgsG S1 S l os k) f →
    ∃ p xs lns S', argsG S1 S l = some (p, xs, lns, S') ∧ p ∧ ∃ os', Good (k xs lns S' os') f
  | [], S, os, k, h => ⟨True, [], [], S, rfl, trivial, os, h⟩
  | a :: l, S, os, k, h => by
    simp only [xArgsG] at h
    obtain ⟨p, x, ln, S2, h1, hp, os1, h⟩ := xArgG_ok h
    obtain ⟨q, xs, lns, S3, h2, hq, os2, h⟩ := xArgsG_ok h
    exact ⟨p ∧ q, x :: xs, ln ++ lns, S3, by simp only [argsG, h1, h2], ⟨hp, hq⟩, os2, h⟩

theorem ALes.vs : ∀ {ds ds' : List D}, ALes (ds.map .v) (ds'.map .v) → DLes ds ds'
  | [], [], _ => trivial
  | [], d' :: ds', h => by simp [ALes] at h
  | d :: ds, [], h => by simp [ALes] at h
  | d :: ds, d' :: ds', h => ⟨h.1, ALes.vs h.2⟩
def vArgs : List A → Option (List D)
  | [] => some []
  | .v d :: l => match vArgs l with | some ds => some (d :: ds) | none => none
  | .bx _ :: _ => none
theorem vArgs_ok : ∀ {As : List A} {ds : List D}, vArgs As = some ds → As = ds.map .v
  | [], ds, h => by simp only [vArgs, Option.some.injEq] at h; subst h; rfl
  | .v d :: l, ds, h => by
    simp only [vArgs] at h
    split at h
    · rename_i ds' h1
      obtain rfl := Option.some.inj h
      rw [vArgs_ok h1]; rfl
    · cases h
  | .bx _ :: _, ds, h => by simp [vArgs] at h

abbrev Ex2 (P : Program) (E : Env) (S : Store) (dst : Nat) (c : COp) (k : Kt φ P) (f : φ) : Prop := ∃ rd av ws, Exec P E S dst c rd av ws ∧ ∃ os', Good (k av ws rd os') f

def xCallP (S : Store) (id : Nat) (L : List AV) (os : List (Or P)) (k : Kt φ P) : Option (Out φ) :=
  xViews S L os fun ds os => (match os with
    | .call (id := id') (As := As) (res := res) (outs := outs) _ :: os => chk (id == id' && primD res) (eqc (.a (ds.map .v)) (.a As) (eqc (.a outs) (.a As) (k (avR res) [] (pubs L) os)))
    | .callw (id := id') (As := As) (As' := As') (res := res) (outs := outs) _ _ :: os => chk (id == id' && primD res && (vArgs As').isSome) (eqc (.a (ds.map .v)) (.a As) (eqc (.a outs) (.a As') (k (avR res) [] (pubs L) os)))
    | _ => none)
def xCallG (S : Store) (id dst : Nat) (L : List AV) (os : List (Or P)) (k : Kt φ P) : Option (Out φ) :=
  xPubs S (pubs L) os fun S1 os => xArgsG S1 S1 L os fun As lents S2 os => (match os with
    | .call (id := id') (As := As0) (res := res) (outs := outs) _ :: os => chk (id == id' && shape outs == shape As0) (eqc (.a As) (.a As0) (match absRes S2 dst res with
      | some (av, S3) => (match backG S3 outs lents with
        | some S4 => k av (S4.take (S4.length - S.length)) (pubs L ++ lrefs lents) os
        | none => none)
      | none => none))
    | .callw (id := id') (As := As0) (As' := As1) (res := res) (outs := outs) _ _ :: os => chk (id == id' && shape outs == shape As1) (eqc (.a As) (.a As0) (match absRes S2 dst res with
      | some (av, S3) => (match backG S3 outs lents with
        | some S4 => k av (S4.take (S4.length - S.length)) (pubs L ++ lrefs lents) os
        | none => none)
      | none => none))
    | _ => none)
def xCall (E : Env) (S : Store) (dst : Nat) (prim : Bool) (f : Opd) (args : List Opd) (os : List (Or P)) (k : Kt φ P) : Option (Out φ) :=
  match fnOf (ev E f) with
  | some (id, caps) => (match prim with
    | true => xCallP S id (args.map (ev E) ++ caps) os k
    | false => xCallG S id dst (args.map (ev E) ++ caps) os k)
  | none => none
theorem xCall_ok {E : Env} {S : Store} {dst : Nat} {prim : Bool} {fn : Opd} {args : List Opd} {os : List (Or P)} {k : Kt φ P} {f : φ} (h : Good (xCall E S dst prim fn args os k) f) : Ex2 P E S dst (.call prim fn args) k f := by
  unfold xCall at h
  split at h
  · rename_i id caps hf
    split at h
    · unfold xCallP at h
      obtain ⟨p, ds, h1, hp, os1, h⟩ := xViews_ok h
      split at h
      · rename_i id' As res outs hs os2
        replace h := good_chk h; obtain ⟨h2, h⟩ := h
        replace h := good_eqc h; obtain ⟨h3, h⟩ := h
        replace h := good_eqc h; obtain ⟨h4, h⟩ := h
        simp only [Bool.and_eq_true, beq_iff_eq] at h2
        obtain ⟨rfl, h2⟩ := h2
        obtain rfl := Cmp.a.inj h3
        obtain rfl := Cmp.a.inj h4
        exact ⟨_, _, _, ⟨id, caps, hf, .inl ⟨rfl, p, ds, ds, res, h1, hp, DLes.refl ds, hs, h2, rfl, rfl, rfl⟩⟩, os2, h⟩
      · rename_i id' As As' res outs hle hs os2
        replace h := good_chk h; obtain ⟨h2, h⟩ := h
        replace h := good_eqc h; obtain ⟨h3, h⟩ := h
        replace h := good_eqc h; obtain ⟨h4, h⟩ := h
        simp only [Bool.and_eq_true, beq_iff_eq] at h2
        obtain ⟨⟨rfl, h2⟩, h5⟩ := h2
        obtain rfl := Cmp.a.inj h3
        obtain rfl := Cmp.a.inj h4
        obtain ⟨ds', h6⟩ := Option.isSome_iff_exists.1 h5
        obtain rfl := vArgs_ok h6
        exact ⟨_, _, _, ⟨id, caps, hf, .inl ⟨rfl, p, ds, ds', res, h1, hp, hle.vs, hs, h2, rfl, rfl, rfl⟩⟩, os2, h⟩
      · exact (good_none h).elim
    · unfold xCallG at h
      obtain ⟨os0, h⟩ := xPubs_ok h
      obtain ⟨p, As, lents, S2, h1, hp, os1, h⟩ := xArgsG_ok h
      have body : ∀ {As' : List A} {res : D} {outs : List A} {os2 : List (Or P)}, ALes As As' → Sound P id As' res outs → shape outs = shape As' → Good (match absRes S2 dst res with
          | some (av, S3) => (match backG S3 outs lents with
            | some S4 => k av (S4.take (S4.length - S.length)) (pubs (args.map (ev E) ++ caps) ++ lrefs lents) os2
            | none => none)
          | none => none) f → Ex2 P E S dst (.call false fn args) k f := by
        intro As' res outs os2 hle hs hsh h
        split at h
        · rename_i av S3 hr
          split at h
          · rename_i S4 hb
            have e : ∃ ws : Store, S4 = ws ++ S := by
              obtain ⟨w1, e1, _, _⟩ := pubAll_loc (pubs (args.map (ev E) ++ caps)) S
              rw [e1] at h1
              obtain ⟨w2, rfl, _⟩ := argsG_loc h1
              obtain ⟨w3, rfl, _⟩ := absRes_loc hr
              obtain ⟨w4, e4, _⟩ := backG_loc hb
              exact ⟨w4 ++ (w3 ++ (w2 ++ w1)), by rw [e4]; simp [List.append_assoc]⟩
            obtain ⟨ws, rfl⟩ := e
            have et : (ws ++ S).take ((ws ++ S).length - S.length) = ws := by simp
            rw [et] at h
            exact ⟨_, _, _, ⟨id, caps, hf, .inr ⟨p, As, As', outs, lents, S2, S3, res, h1, hp, hle, hs, hsh, hr, hb, rfl⟩⟩, os2, h⟩
          · exact (good_none h).elim
        · exact (good_none h).elim
      split at h
      · rename_i id' As0 res outs hs os2
        replace h := good_chk h; obtain ⟨h2, h⟩ := h
        replace h := good_eqc h; obtain ⟨h3, h⟩ := h
        simp only [Bool.and_eq_true, beq_iff_eq] at h2
        obtain ⟨rfl, h2⟩ := h2
        obtain rfl := Cmp.a.inj h3
        exact body (ALes.refl _) hs h2 h
      · rename_i id' As0 As1 res outs hle hs os2
        replace h := good_chk h; obtain ⟨h2, h⟩ := h
        replace h := good_eqc h; obtain ⟨h3, h⟩ := h
        simp only [Bool.and_eq_true, beq_iff_eq] at h2
        obtain ⟨rfl, h2⟩ := h2
        obtain rfl := Cmp.a.inj h3
        exact body hle hs h2 h
      · exact (good_none h).elim
  · exact (good_none h).elim

def xBool2 (E : Env) (neg : Bool) (x y : Opd) (os : List (Or P)) (k : Kt φ P) : Option (Out φ) :=
  match ev E x, ev E y with
  | .pu (.val (.bool a)), .pu (.val (.bool b)) => k (vb (if neg then !decide (a = b) else decide (a = b))) [] [] os
  | _, _ => none
def xExec (E : Env) (S : Store) (dst : Nat) (c : COp) (os : List (Or P)) (k : Kt φ P) : Option (Out φ) := match c with
  | .mv x => k (ev E x) [] [] os
  | .pick c a b => xB (ev E c) os fun t os => k (match t with | true => ev E a | false => ev E b) [] [] os
  | .alloc zero => chk (sget S dst).isNone (k (.ob dst 0) [(dst, .box (zero.map fun v => .pu (.val v)))] [dst] os)
  | .box x => chk (sget S dst).isNone (okXs S (cellsOf (ev E x)) (k (.ob dst 0) [(dst, .box (cellsOf (ev E x)))] (dst :: refs (cellsOf (ev E x))) os))
  | .build zero parts => placesX S zero.length (parts.map fun (o, n, x) => (o, n, ev E x)) (k (.ag (placeAll (zero.map fun v => .pu (.val v)) (parts.map fun (o, n, x) => (o, n, ev E x)))) [] (refs ((parts.map fun (o, n, x) => (o, n, ev E x)).flatMap fun (_, _, a) => cellsOf a)) os)
  | .buildSl sz len parts => (match rowsOf sz (parts.map fun (i, x) => (i, ev E x)) 0 with
    | some rows => chk ((sget S dst).isNone && rows.length == len) (k (.so dst 0 len) [(dst, .slc 0 (.sl true sz rows))] [dst] os)
    | none => none)
  | .load n agg a => xLoad E S n agg a os k
  | .store n a x => xStore E S n a x os k
  | .bin op x y => xBin E op x y os k
  | .beq neg x y => xBool2 E neg x y os k
  | .un op x => (match det E S dst (.un op x) with | some r => k r.av r.ws r.rd os | none => none)
  | .len s x => xLenOp E S s x os k
  | .fadr off a => xFadr E S off a os k
  | .field off n agg x => xField E off n agg x os k
  | .iadr sz x i => xIadr E S sz x i os k
  | .idx x i => xIdx E x i os k
  | .slice s sz x lo hi => xSlice E s sz x lo hi os k
  | .app sz bytes x y => xApp E S dst sz bytes x y os k
  | .mkSl sz bytes zero l c => xMk E S dst sz bytes zero l c os k
  | .ext x i => (match det E S dst (.ext x i) with | some r => k r.av r.ws r.rd os | none => none)
  | .nilc x => (match det E S dst (.nilc x) with | some r => k r.av r.ws r.rd os | none => none)
  | .toInt kk x => (match det E S dst (.toInt kk x) with | some r => k r.av r.ws r.rd os | none => none)
  | .mkfn g caps => k (.cl g (caps.map (ev E))) [] [] os
  | .str x => xStr E S x os k
  | .call prim g args => xCall E S dst prim g args os k
  | .seq _ _ _ _ => none
theorem ex1_ex2 {E : Env} {S : Store} {dst : Nat} {c : COp} {k : Kt φ P} {f : φ} (hc : isCtl c = false) (h : Ex1 P E S dst c k f) : Ex2 P E S dst c k f := by
  obtain ⟨r, h1, h2, os', h3⟩ := h
  refine ⟨_, _, _, ?_, os', h3⟩
  cases c <;> first | exact ⟨r, h1, h2, rfl, rfl, rfl⟩ | (cases hc; done)
theorem det_triv {E : Env} {S : Store} {dst : Nat} {c : COp} (hc : (∃ op x, c = .un op x) ∨ (∃ x i, c = .ext x i) ∨ (∃ x, c = .nilc x) ∨ (∃ kk x, c = .toInt kk x)) {r : Res} (h : det E S dst c = some r) : r.p := by
  rcases hc with ⟨op, x, rfl⟩ | ⟨x, i, rfl⟩ | ⟨x, rfl⟩ | ⟨kk, x, rfl⟩ <;> simp only [det] at h <;> repeat' split at h
  all_goals first | (cases h; done) | (obtain rfl := Option.some.inj h; trivial)
theorem xExec_ok {E : Env} {S : Store} {dst : Nat} {c : COp} {os : List (Or P)} {k : Kt φ P} {f : φ} (h : Good (xExec E S dst c os k) f) : Ex2 P E S dst c k f := by
  have dt : ((∃ op x, c = .un op x) ∨ (∃ x i, c = .ext x i) ∨ (∃ x, c = .nilc x) ∨ (∃ kk x, c = .toInt kk x)) → Good (match det E S dst c with | some r => k r.av r.ws r.rd os | none => none) f → Ex1 P E S dst c k f := by
    intro hc h
    split at h
    · rename_i r hr; exact ⟨r, hr, det_triv hc hr, os, h⟩
    · exact (good_none h).elim
  cases c with
  | mv x => exact ex1_ex2 rfl ⟨_, rfl, trivial, os, h⟩
  | pick c a b =>
    simp only [xExec] at h
    obtain ⟨t, os', h1, h⟩ := xB_ok h
    refine ⟨_, _, _, ⟨t, h1, rfl, rfl, rfl⟩, os', ?_⟩
    cases t <;> exact h
  | alloc zero =>
    simp only [xExec] at h
    replace h := good_chk h; obtain ⟨h1, h⟩ := h
    exact ex1_ex2 rfl ⟨_, rfl, by simpa using h1, os, h⟩
  | box x =>
    simp only [xExec] at h
    replace h := good_chk h; obtain ⟨h1, h⟩ := h
    replace h := okXs_ok h; obtain ⟨h2, h⟩ := h
    exact ex1_ex2 rfl ⟨_, rfl, ⟨by simpa using h1, h2⟩, os, h⟩
  | build zero parts =>
    simp only [xExec] at h
    replace h := placesX_ok h; obtain ⟨h2, h⟩ := h
    exact ex1_ex2 rfl ⟨_, rfl, h2, os, h⟩
  | buildSl sz len parts =>
    simp only [xExec] at h
    split at h
    · rename_i rows hr
      replace h := good_chk h; obtain ⟨h1, h⟩ := h
      simp only [Bool.and_eq_true, beq_iff_eq] at h1
      exact ex1_ex2 rfl ⟨⟨sget S dst = none ∧ rows.length = len, [dst], .so dst 0 len, [(dst, .slc 0 (.sl true sz rows))]⟩, by simp only [det, hr], ⟨by simpa using h1.1, h1.2⟩, os, h⟩
    · exact (good_none h).elim
  | load n agg a => exact ex1_ex2 rfl (xLoad_ok h)
  | store n a x => exact ex1_ex2 rfl (xStore_ok h)
  | bin op x y => exact ex1_ex2 rfl (xBin_ok h)
  | beq neg x y =>
    simp only [xExec, xBool2] at h
    split at h
    · rename_i a b e1 e2
      exact ex1_ex2 rfl ⟨⟨True, [], vb (if neg then !decide (a = b) else decide (a = b)), []⟩, by simp only [det, e1, e2], trivial, os, h⟩
    · exact (good_none h).elim
  | un op x => exact ex1_ex2 rfl (dt (.inl ⟨_, _, rfl⟩) h)
  | len s x => exact ex1_ex2 rfl (xLenOp_ok h)
  | fadr off a => exact ex1_ex2 rfl (xFadr_ok h)
  | field off n agg x => exact ex1_ex2 rfl (xField_ok h)
  | iadr sz x i => exact ex1_ex2 rfl (xIadr_ok h)
  | idx x i => exact ex1_ex2 rfl (xIdx_ok h)
  | slice s sz x lo hi => exact ex1_ex2 rfl (xSlice_ok h)
  | app sz bytes x y => exact ex1_ex2 rfl (xApp_ok h)
  | mkSl sz bytes zero l c => exact ex1_ex2 rfl (xMk_ok h)
  | ext x i => exact ex1_ex2 rfl (dt (.inr (.inl ⟨_, _, rfl⟩)) h)
  | nilc x => exact ex1_ex2 rfl (dt (.inr (.inr (.inl ⟨_, rfl⟩))) h)
  | toInt kk x => exact ex1_ex2 rfl (dt (.inr (.inr (.inr ⟨_, _, rfl⟩))) h)
  | mkfn g caps => exact ex1_ex2 rfl ⟨_, rfl, trivial, os, h⟩
  | str x => exact ex1_ex2 rfl (xStr_ok h)
  | call prim g args => exact xCall_ok h
  | seq n fs x y => exact (good_none h).elim

def xStep (E : Env) (S : Store) (o : CO) (os : List (Or P)) (k : Kt φ P) : Option (Out φ) := match o.g with
  | none => xExec E S (o.dst.getD 0) o.op os k
  | some (s, want) => (match eget E s with
    | .pu (.val (.tuple _)) => k (.pu (.val undef)) [] [] os
    | a => xB a os fun t os => (match t == want with
      | true => xExec E S (o.dst.getD 0) o.op os k
      | false => k (.pu (.val undef)) [] [] os))
theorem xStep_ok {E : Env} {S : Store} {o : CO} {os : List (Or P)} {k : Kt φ P} {f : φ} (h : Good (xStep E S o os k) f) : ∃ rd av ws, ARel P E S o rd av ws ∧ ∃ os', Good (k av ws rd os') f := by
  unfold xStep at h
  split at h
  · rename_i hg
    simp only [ARel, hg]
    exact xExec_ok h
  · rename_i s want hg
    simp only [ARel, hg]
    split at h
    · rename_i u hu
      exact ⟨_, _, _, ⟨_, hu, by rw [if_neg (by simp [isB])]; exact ⟨rfl, rfl, rfl⟩⟩, os, h⟩
    · obtain ⟨t, os1, h1, h⟩ := xB_ok h
      split at h
      · rename_i ht
        obtain ⟨rd, av, ws, h2, os2, h⟩ := xExec_ok h
        exact ⟨rd, av, ws, ⟨_, h1, by rw [if_pos (by simpa [isB] using ht)]; exact h2⟩, os2, h⟩
      · rename_i ht
        exact ⟨_, _, _, ⟨_, h1, by rw [if_neg (by simpa [isB] using ht)]; exact ⟨rfl, rfl, rfl⟩⟩, os1, h⟩

def xReg : List CO → Env → Store → List (Or P) → (Env → Store → List (Or P) → Option (Out φ)) → Option (Out φ)
  | [], E, S, os, k => k E S os
  | o :: l, E, S, os, k => xStep E S o os fun av ws _ os => xReg l (eput E o.dst av) (ws ++ S) os k
theorem stepK_of {E : Env} {S : Store} {o : CO} {rd : List Nat} {av : AV} {ws : Store} (h : ARel P E S o rd av ws) : True := trivial
theorem xReg_ok {f : φ} : ∀ {l : List CO} {E : Env} {S : Store} {os : List (Or P)} {k : Env → Store → List (Or P) → Option (Out φ)} (n : Nat), Good (xReg l E S os k) f →
    ∃ its : List It, its.map (·.o) = l ∧ its.map (·.i) = List.range' n l.length ∧ Trace P its (E, S) ∧ ∃ os', Good (k (fin its (E, S)).1 (fin its (E, S)).2 os') f
  | [], E, S, os, k, n, h => ⟨[], rfl, rfl, trivial, os, h⟩
  | o :: l, E, S, os, k, n, h => by
    simp only [xReg] at h
    obtain ⟨rd, av, ws, h1, os1, h⟩ := xStep_ok h
    obtain ⟨its, k1, k2, k3, k4⟩ := xReg_ok (n + 1) h
    exact ⟨⟨n, o, rd, av, ws⟩ :: its, by simp [k1], by simp [k2, List.range'], ⟨h1, k3⟩, k4⟩
def xRegD : List CO → Env → Store → List Fp → List (Or P) → (Env → Store → List Fp → List (Or P) → Option (Out φ)) → Option (Out φ)
  | [], E, S, fps, os, k => k E S fps os
  | o :: l, E, S, fps, os, k => xStep E S o os fun av ws rd os => xRegD l (eput E o.dst av) (ws ++ S) (⟨o.slots, o.dst, rd, ws.map (·.1)⟩ :: fps) os k
theorem xRegD_ok {f : φ} : ∀ {l : List CO} {E : Env} {S : Store} {fps : List Fp} {os : List (Or P)} {k : Env → Store → List Fp → List (Or P) → Option (Out φ)} (n : Nat), Good (xRegD l E S fps os k) f →
    ∃ its : List It, its.map (·.o) = l ∧ its.map (·.i) = List.range' n l.length ∧ Trace P its (E, S) ∧ ∃ os', Good (k (fin its (E, S)).1 (fin its (E, S)).2 ((its.map It.fp).reverse ++ fps) os') f
  | [], E, S, fps, os, k, n, h => ⟨[], rfl, rfl, trivial, os, h⟩
  | o :: l, E, S, fps, os, k, n, h => by
    simp only [xRegD] at h
    obtain ⟨rd, av, ws, h1, os1, h⟩ := xStep_ok h
    obtain ⟨its, k1, k2, k3, os2, k4⟩ := xRegD_ok (n + 1) h
    exact ⟨⟨n, o, rd, av, ws⟩ :: its, by simp [k1], by simp [k2, List.range'], ⟨h1, k3⟩, os2, by simpa [It.fp, fin, It.ap] using k4⟩
end

end Go.Proofs.YtcaemkcglflmnaaDoor.Vm
