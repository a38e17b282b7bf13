/-
  The abstract machine, part L: what an operation looks at; steps that do not meet may change places. Conditions: none.
-/
import Derived.Test.YtcaemkcglflmnaaDoorVmK
namespace Go.Proofs.YtcaemkcglflmnaaDoor.Vm
open Go Go.RowKit
variable [Tbl]
set_option linter.unusedSimpArgs false
set_option linter.unusedVariables false
set_option linter.unusedSectionVars false

def Ag (ids : List Nat) (S S' : Store) : Prop := ∀ i ∈ ids, sget S' i = sget S i
theorem Ag.left {a b : List Nat} {S S' : Store} (h : Ag (a ++ b) S S') : Ag a S S' := fun i hi => h i (by simp [hi])
theorem Ag.right {a b : List Nat} {S S' : Store} (h : Ag (a ++ b) S S') : Ag b S S' := fun i hi => h i (by simp [hi])
theorem Ag.sub {a b : List Nat} {S S' : Store} (h : Ag b S S') (hs : ∀ i ∈ a, i ∈ b) : Ag a S S' := fun i hi => h i (hs i hi)
theorem Ag.over {ids : List Nat} {S S' : Store} (h : Ag ids S S') : ∀ ws : Store, Ag ids (ws ++ S) (ws ++ S')
  | [] => h
  | (t, o) :: ws => fun i hi => by
    by_cases he : i = t
    · subst he; rw [List.cons_append, List.cons_append, sget_cons_eq, sget_cons_eq]
    · rw [List.cons_append, List.cons_append, sget_cons_ne he, sget_cons_ne he]; exact Ag.over h ws i hi

def opds : COp → List Opd
  | .mv x | .box x | .un _ x | .len _ x | .fadr _ x | .field _ _ _ x | .ext x _ | .nilc x | .toInt _ x | .str x | .load _ _ x => [x]
  | .pick c a b => [c, a, b]
  | .alloc _ => []
  | .build _ ps => ps.map fun p => p.2.2
  | .buildSl _ _ ps => ps.map fun p => p.2
  | .store _ a x | .bin _ a x | .beq _ a x | .seq _ _ a x | .iadr _ a x | .idx a x | .app _ _ a x | .mkSl _ _ _ a x => [a, x]
  | .slice _ _ x lo hi => x :: (lo.toList ++ hi.toList)
  | .mkfn _ l => l
  | .call _ f l => f :: l

theorem okCell_loc {S S' : Store} {a : AV} (h : Ag (refs1 a) S S') : okCell S' a = okCell S a := by
  cases a with
  | pu d => cases d <;> rfl
  | so id st n => simp only [okCell, h id (by simp [refs1])]
  | _ => rfl
theorem okCells_loc {S S' : Store} : ∀ {l : List AV}, Ag (refs l) S S' → okCells S' l = okCells S l
  | [], _ => rfl
  | a :: l, h => by simp only [okCells, okCell_loc (h.left : Ag (refs1 a) S S'), okCells_loc (h.right : Ag (refs l) S S')]
theorem refs_append : ∀ a b : List AV, refs (a ++ b) = refs a ++ refs b
  | [], b => rfl
  | x :: a, b => by simp only [List.cons_append, refs, refs_append a b, List.append_assoc]
theorem placesOk_loc {S S' : Store} {n : Nat} : ∀ {l : List (Nat × Nat × AV)}, Ag (refs (l.flatMap fun (_, _, a) => cellsOf a)) S S' → placesOk S' n l = placesOk S n l
  | [], _ => rfl
  | (o, k, a) :: l, h => by
    simp only [List.flatMap_cons, refs_append] at h
    simp only [placesOk, okCells_loc h.left, placesOk_loc h.right]

theorem appRows_loc {S S' : Store} {a : AV} {p : Prop} {rd : List Nat} {add : List (List D)} (h : appRows S a = some (p, rd, add)) (hs : Ag rd S S') : appRows S' a = some (p, rd, add) := by
  unfold appRows at h ⊢
  split at h
  · exact h
  · exact h
  · rename_i id st n
    split at h
    · rename_i st' own sz rows he
      have h' := h
      simp only [Option.some.injEq, Prod.mk.injEq] at h
      obtain ⟨_, rfl, _⟩ := h
      simp only [hs id (by simp), he]
      exact h'
    · cases h
  · cases h

theorem opt_loc {E E' : Env} {l : Option Opd} (h : ∀ x ∈ l.toList, ev E' x = ev E x) : l.map (ev E') = l.map (ev E) := by
  cases l with
  | none => rfl
  | some x => simp [h x (by simp)]

theorem det_locE {E E' : Env} {S : Store} {dst : Nat} {c : COp} (he : ∀ x ∈ opds c, ev E' x = ev E x) : det E' S dst c = det E S dst c := by
  cases c with
  | build zero parts =>
    have : (parts.map fun (o, n, x) => (o, n, ev E' x)) = parts.map fun (o, n, x) => (o, n, ev E x) := List.map_congr_left fun p hp => by
      obtain ⟨o, n, x⟩ := p
      simp only [he x (List.mem_map.2 ⟨(o, n, x), hp, rfl⟩)]
    simp only [det, this]
  | buildSl sz len parts =>
    have : (parts.map fun (i, x) => (i, ev E' x)) = parts.map fun (i, x) => (i, ev E x) := List.map_congr_left fun p hp => by
      obtain ⟨i, x⟩ := p
      simp only [he x (List.mem_map.2 ⟨(i, x), hp, rfl⟩)]
    simp only [det, this]
  | mkfn f caps =>
    have : caps.map (ev E') = caps.map (ev E) := List.map_congr_left he
    simp only [det, this]
  | slice s sz x lo hi =>
    have h1 : lo.map (ev E') = lo.map (ev E) := opt_loc fun y hy => he y (by simp [opds]; exact .inr (.inl (by simpa using hy)))
    have h2 : hi.map (ev E') = hi.map (ev E) := opt_loc fun y hy => he y (by simp [opds]; exact .inr (.inr (by simpa using hy)))
    simp only [det, h1, h2, he x (by simp [opds])]
  | alloc zero => rfl
  | pick c a b => rfl
  | call p f l => rfl
  | seq n fs x y => rfl
  | _ => simp only [opds, List.mem_cons, List.mem_nil_iff, or_false, forall_eq_or_imp, forall_eq] at he; simp only [det, he]

theorem det_locS {E : Env} {S S' : Store} {dst : Nat} {c : COp} {r : Res} (h : det E S dst c = some r) (hs : Ag (r.rd ++ r.ws.map (·.1)) S S') : det E S' dst c = some r := by
  cases c with
  | mv x => exact h
  | alloc zero =>
    simp only [det, Option.some.injEq] at h ⊢
    subst h
    simp only [hs dst (by simp)]
  | box x =>
    simp only [det, Option.some.injEq] at h ⊢
    subst h
    simp only [hs dst (by simp), okCells_loc (hs.sub (by simp +contextual) : Ag (refs (cellsOf (ev E x))) S S')]
  | build zero parts =>
    simp only [det, Option.some.injEq] at h ⊢
    subst h
    simp only [placesOk_loc hs.left]
  | buildSl sz len parts =>
    simp only [det] at h ⊢
    split at h
    · obtain rfl := Option.some.inj h
      simp only [hs dst (by simp)]
    · cases h
  | load n agg a =>
    simp only [det] at h ⊢
    split at h
    · rename_i id off he
      split at h
      · rename_i cells hc
        have hm : id ∈ r.rd := by
          split at h
          · obtain rfl := Option.some.inj h; simp
          · split at h
            · obtain rfl := Option.some.inj h; simp
            · cases h
        rw [hs id (by simp [hm]), hc]
        exact h
      · cases h
    · exact h
    · rename_i id st k i j he
      split at h
      · rename_i st' own sz rows hc
        have hm : id ∈ r.rd := by
          split at h
          · split at h
            · obtain rfl := Option.some.inj h; simp
            · cases h
          · cases h
        rw [hs id (by simp [hm]), hc]
        exact h
      · cases h
    · cases h
  | store n a x =>
    simp only [det] at h ⊢
    split at h
    · rename_i id off he
      split at h
      · rename_i cells hc
        obtain rfl := Option.some.inj h
        rw [hs id (by simp), hc]
        simp only [okCells_loc (hs.sub (by simp +contextual) : Ag (refs (cellsOf (ev E x))) S S')]
      · cases h
    · rename_i id st k i j he
      split at h
      · rename_i st' sz rows hc
        have hm : id ∈ r.rd := by
          split at h
          · obtain rfl := Option.some.inj h; simp
          · cases h
        rw [hs id (by simp [hm]), hc]
        exact h
      · cases h
    · cases h
  | bin op x y => exact h
  | beq n x y => exact h
  | seq n fs x y => exact h
  | un op x => exact h
  | len s x =>
    simp only [det] at h ⊢
    split at h
    · exact h
    · exact h
    · exact h
    · rename_i id st n he
      split at h
      · rename_i st' d hc
        obtain rfl := Option.some.inj h
        rw [hs id (by simp), hc]
      · cases h
    · cases h
  | fadr off a =>
    simp only [det] at h ⊢
    split at h
    · exact h
    · exact h
    · rename_i id st n i j he
      split at h
      · rename_i st' d hc
        obtain rfl := Option.some.inj h
        rw [hs id (by simp), hc]
      · cases h
    · cases h
  | field off n agg x => exact h
  | iadr sz x i =>
    simp only [det] at h ⊢
    split at h
    · exact h
    · rename_i id st k m n he1 he2
      split at h
      · rename_i st' sz' rows hc
        obtain rfl := Option.some.inj h
        rw [hs id (by simp), hc]
      · rename_i st' sz' rows hc
        have hm : id ∈ r.rd := by
          split at h
          · obtain rfl := Option.some.inj h; simp
          · cases h
        rw [hs id (by simp [hm]), hc]
        exact h
      · cases h
    · cases h
  | idx x i => exact h
  | slice s sz x lo hi => exact h
  | app sz bytes x y =>
    simp only [det] at h ⊢
    split at h
    · cases h
    · rename_i p rd add ha
      split at h
      · rename_i he
        obtain rfl := Option.some.inj h
        rw [appRows_loc ha (hs.sub (by simp +contextual))]
        simp only [hs dst (by simp)]
      · rename_i id st n he
        split at h
        · rename_i st' sz' rows hc
          obtain rfl := Option.some.inj h
          rw [appRows_loc ha (hs.sub (by simp +contextual))]
          simp only [hs id (by simp), hc]
        · cases h
      · cases h
  | mkSl sz bytes zero l c =>
    simp only [det] at h ⊢
    split at h
    · obtain rfl := Option.some.inj h
      simp only [hs dst (by simp)]
    · cases h
  | ext x i => exact h
  | nilc x => exact h
  | toInt k x => exact h
  | str x =>
    simp only [det] at h ⊢
    split at h
    · rename_i id st n he
      split at h
      · rename_i st' own sz rows hc
        have hm : id ∈ r.rd := by
          split at h
          · obtain rfl := Option.some.inj h; simp
          · cases h
        rw [hs id (by simp [hm]), hc]
        exact h
      · cases h
    · cases h
  | mkfn f caps => exact h
  | pick c a b => exact h
  | call p f l => exact h

/-! ### calls -/
theorem viewC_loc {S S' : Store} {a : AV} (hs : Ag (pubC a) S S') : viewC S' a = viewC S a := by
  cases a <;> first | rfl | skip
  rename_i id st n
  simp only [viewC, hs id (by simp [pubC])]
theorem viewCs_loc {S S' : Store} : ∀ {l : List AV}, Ag (pubCs l) S S' → viewCs S' l = viewCs S l
  | [], _ => rfl
  | a :: l, h => by simp only [viewCs, viewC_loc (h.left : Ag (pubC a) S S'), viewCs_loc (h.right : Ag (pubCs l) S S')]
theorem view_loc {S S' : Store} {a : AV} (hs : Ag (pubs1 a) S S') : view S' a = view S a := by
  cases a with
  | ag l => simp only [view, viewCs_loc (hs : Ag (pubCs l) S S')]
  | cl f l => simp only [view, viewCs_loc (hs : Ag (pubCs l) S S')]
  | pu d => rfl
  | so id st n => simp only [view]; exact viewC_loc hs
  | _ => rfl
theorem views_loc {S S' : Store} : ∀ {l : List AV}, Ag (pubs l) S S' → views S' l = views S l
  | [], _ => rfl
  | a :: l, h => by simp only [views, view_loc (h.left : Ag (pubs1 a) S S'), views_loc (h.right : Ag (pubs l) S S')]

theorem pubOne_loc {S : Store} {id : Nat} : ∃ ws : Store, pubOne S id = ws ++ S ∧ (∀ x ∈ ws, x.1 = id) ∧ ∀ S', sget S' id = sget S id → pubOne S' id = ws ++ S' := by
  unfold pubOne
  split
  · rename_i st sz rows h
    exact ⟨[(id, .slc st (.sl false sz (D.pl.plLL rows)))], rfl, by simp, fun S' h' => by simp only [h', h]; rfl⟩
  · rename_i hn
    refine ⟨[], rfl, by simp, fun S' h' => ?_⟩
    rw [h']
    split
    · rename_i st sz rows h; exact absurd h (hn _ _ _)
    · rfl
theorem pubAll_loc : ∀ (l : List Nat) (S : Store), ∃ ws : Store, pubAll S l = ws ++ S ∧ (∀ x ∈ ws, x.1 ∈ l) ∧ ∀ S', Ag l S S' → pubAll S' l = ws ++ S'
  | [], S => ⟨[], rfl, by simp, fun _ _ => rfl⟩
  | id :: l, S => by
    obtain ⟨w1, h1, h2, h3⟩ := pubOne_loc (S := S) (id := id)
    obtain ⟨w2, k1, k2, k3⟩ := pubAll_loc l (pubOne S id)
    refine ⟨w2 ++ w1, by rw [pubAll, k1, h1, List.append_assoc], fun x hx => ?_, fun S' h' => ?_⟩
    · rcases List.mem_append.1 hx with hx | hx
      · simp [k2 x hx]
      · simp [h2 x hx]
    · have e1 := h3 S' (h' id (by simp))
      rw [pubAll, k3 (pubOne S' id) (by rw [h1, e1]; exact Ag.over (h'.sub (by simp +contextual)) _), e1, List.append_assoc]

theorem lendC_loc {S S2 : Store} {a : AV} {p : Prop} {d : D} (h : lendC S a = some (p, d, S2)) : ∃ ws : Store, S2 = ws ++ S ∧ ∀ S', Ag (refs1 a) S S' → lendC S' a = some (p, d, ws ++ S') := by
  unfold lendC at h
  split at h
  · simp only [Option.some.injEq, Prod.mk.injEq] at h
    obtain ⟨rfl, rfl, rfl⟩ := h
    exact ⟨[], rfl, fun _ _ => rfl⟩
  · rename_i id st n
    split at h
    · rename_i st' sz rows he
      simp only [Option.some.injEq, Prod.mk.injEq] at h
      obtain ⟨rfl, rfl, rfl⟩ := h
      exact ⟨[(id, .slc (st' + 1) (.sl true 0 []))], rfl, fun S' h' => by simp only [lendC, h' id (by simp [refs1]), he]; rfl⟩
    · rename_i st' sz rows he
      simp only [Option.some.injEq, Prod.mk.injEq] at h
      obtain ⟨rfl, rfl, rfl⟩ := h
      exact ⟨[], rfl, fun S' h' => by simp only [lendC, h' id (by simp [refs1]), he]; rfl⟩
    · cases h
  · cases h
theorem lendCs_loc : ∀ {l : List AV} {S S2 : Store} {p : Prop} {ds : List D}, lendCs S l = some (p, ds, S2) → ∃ ws : Store, S2 = ws ++ S ∧ ∀ S', Ag (refs l) S S' → lendCs S' l = some (p, ds, ws ++ S')
  | [], S, S2, p, ds, h => by
    simp only [lendCs, Option.some.injEq, Prod.mk.injEq] at h
    obtain ⟨rfl, rfl, rfl⟩ := h
    exact ⟨[], rfl, fun _ _ => rfl⟩
  | a :: l, S, S2, p, ds, h => by
    simp only [lendCs] at h
    split at h
    · rename_i p1 d S1 h1
      split at h
      · rename_i q ds' S2' h2
        simp only [Option.some.injEq, Prod.mk.injEq] at h
        obtain ⟨rfl, rfl, rfl⟩ := h
        obtain ⟨w1, rfl, k1⟩ := lendC_loc h1
        obtain ⟨w2, rfl, k2⟩ := lendCs_loc h2
        refine ⟨w2 ++ w1, by rw [List.append_assoc], fun S' h' => ?_⟩
        simp only [lendCs, k1 S' h'.left, k2 (w1 ++ S') (Ag.over h'.right _), List.append_assoc]
      · cases h
    · cases h

def lrefs (l : List (Nat × List AV)) : List Nat := l.flatMap fun q => q.1 :: refs q.2

theorem argG_loc {S1 S S2 : Store} {a : AV} {p : Prop} {x : A} {ln : List (Nat × List AV)} (h : argG S1 S a = some (p, x, ln, S2)) :
    ∃ ws : Store, S2 = ws ++ S ∧ ∀ S1' S', Ag (pubs1 a) S1 S1' → Ag (lrefs ln) S S' → argG S1' S' a = some (p, x, ln, ws ++ S') := by
  have fin : ∀ (h : (match view S1 a with | some (p, d) => some (p, A.v d, ([] : List (Nat × List AV)), S) | none => none) = some (p, x, ln, S2)),
      ∃ ws : Store, S2 = ws ++ S ∧ ∀ S1' S', Ag (pubs1 a) S1 S1' → Ag (lrefs ln) S S' → (match view S1' a with | some (p, d) => some (p, A.v d, ([] : List (Nat × List AV)), S') | none => none) = some (p, x, ln, ws ++ S') := by
    intro h
    split at h
    · rename_i p' d hv
      simp only [Option.some.injEq, Prod.mk.injEq] at h
      obtain ⟨rfl, rfl, rfl, rfl⟩ := h
      exact ⟨[], rfl, fun S1' S' h1 _ => by simp only [view_loc h1, hv]; rfl⟩
    · cases h
  cases a with
  | ob id off =>
    simp only [argG] at h
    split at h
    · rename_i cells hc
      split at h
      · rename_i p' ds S2' h2
        simp only [Option.some.injEq, Prod.mk.injEq] at h
        obtain ⟨rfl, rfl, rfl, rfl⟩ := h
        obtain ⟨w, rfl, k⟩ := lendCs_loc h2
        refine ⟨(id, .hol) :: w, rfl, fun S1' S' _ h' => ?_⟩
        simp only [argG, h' id (by simp [lrefs]), hc, k S' (h'.sub (by simp +contextual [lrefs]))]
        rfl
      · cases h
    · cases h
  | _ => exact fin h
theorem argsG_loc {S1 : Store} : ∀ {l : List AV} {S S2 : Store} {p : Prop} {xs : List A} {lns : List (Nat × List AV)}, argsG S1 S l = some (p, xs, lns, S2) →
    ∃ ws : Store, S2 = ws ++ S ∧ ∀ S1' S', Ag (pubs l) S1 S1' → Ag (lrefs lns) S S' → argsG S1' S' l = some (p, xs, lns, ws ++ S')
  | [], S, S2, p, xs, lns, h => by
    simp only [argsG, Option.some.injEq, Prod.mk.injEq] at h
    obtain ⟨rfl, rfl, rfl, rfl⟩ := h
    exact ⟨[], rfl, fun _ _ _ _ => rfl⟩
  | a :: l, S, S2, p, xs, lns, h => by
    simp only [argsG] at h
    split at h
    · rename_i p1 x ln S2' h1
      split at h
      · rename_i q xs' lns' S3 h2
        simp only [Option.some.injEq, Prod.mk.injEq] at h
        obtain ⟨rfl, rfl, rfl, rfl⟩ := h
        obtain ⟨w1, rfl, k1⟩ := argG_loc h1
        obtain ⟨w2, rfl, k2⟩ := argsG_loc h2
        refine ⟨w2 ++ w1, by rw [List.append_assoc], fun S1' S' h' h'' => ?_⟩
        have e1 : Ag (lrefs ln) S S' := h''.sub fun i hi => by simp only [lrefs, List.flatMap_append] at hi ⊢; simp [hi]
        have e2 : Ag (lrefs lns') S S' := h''.sub fun i hi => by simp only [lrefs, List.flatMap_append] at hi ⊢; exact List.mem_append.2 (.inr hi)
        simp only [argsG, k1 S1' S' h'.left e1, k2 S1' (w1 ++ S') h'.right (Ag.over e2 _), List.append_assoc]
      · cases h
    · cases h

theorem newSt_loc {S S' : Store} {id : Nat} (h : sget S' id = sget S id) : newSt S' id = newSt S id := by simp only [newSt, h]

theorem absC_loc {S S2 : Store} {id : Nat} {d : D} {a : AV} (h : absC S id d = some (a, S2)) : ∃ ws : Store, S2 = ws ++ S ∧ ∀ S', Ag (ws.map (·.1)) S S' → absC S' id d = some (a, ws ++ S') := by
  have plain : absC S id d = some (.pu d, S) → (∀ S', absC S' id d = some (.pu d, S')) → ∃ ws : Store, S2 = ws ++ S ∧ ∀ S', Ag (ws.map (·.1)) S S' → absC S' id d = some (a, ws ++ S') := by
    intro e e'
    rw [e] at h
    simp only [Option.some.injEq, Prod.mk.injEq] at h
    obtain ⟨rfl, rfl⟩ := h
    exact ⟨[], rfl, fun S' _ => e' S'⟩
  cases d with
  | val x => exact plain rfl fun _ => rfl
  | rp cells => exact plain rfl fun _ => rfl
  | cl f caps => simp [absC] at h
  | ag cells => simp [absC] at h
  | tp cells => simp [absC] at h
  | sl own sz rows =>
    cases own with
    | false => exact plain rfl fun _ => rfl
    | true =>
      simp only [absC] at h
      split at h
      · rename_i st hst
        simp only [Option.some.injEq, Prod.mk.injEq] at h
        obtain ⟨rfl, rfl⟩ := h
        exact ⟨[(id, .slc st (.sl true sz rows))], rfl, fun S' h' => by simp only [absC, newSt_loc (h' id (by simp)), hst]; rfl⟩
      · cases h
theorem absCs_loc {ids : Nat → Nat} : ∀ {ds : List D} {j : Nat} {S S2 : Store} {l : List AV}, absCs S ids j ds = some (l, S2) → ∃ ws : Store, S2 = ws ++ S ∧ ∀ S', Ag (ws.map (·.1)) S S' → absCs S' ids j ds = some (l, ws ++ S')
  | [], j, S, S2, l, h => by
    simp only [absCs, Option.some.injEq, Prod.mk.injEq] at h
    obtain ⟨rfl, rfl⟩ := h
    exact ⟨[], rfl, fun _ _ => rfl⟩
  | d :: ds, j, S, S2, l, h => by
    simp only [absCs] at h
    split at h
    · rename_i a S1 h1
      split at h
      · rename_i l' S2' h2
        simp only [Option.some.injEq, Prod.mk.injEq] at h
        obtain ⟨rfl, rfl⟩ := h
        obtain ⟨w1, rfl, k1⟩ := absC_loc h1
        obtain ⟨w2, rfl, k2⟩ := absCs_loc h2
        refine ⟨w2 ++ w1, by rw [List.append_assoc], fun S' h' => ?_⟩
        rw [List.map_append] at h'
        simp only [absCs, k1 S' h'.right, k2 (w1 ++ S') (Ag.over h'.left _), List.append_assoc]
      · cases h
    · cases h
theorem abs1_loc {S S2 : Store} {k : Nat} {d : D} {a : AV} (h : abs1 S k d = some (a, S2)) : ∃ ws : Store, S2 = ws ++ S ∧ ∀ S', Ag (ws.map (·.1)) S S' → abs1 S' k d = some (a, ws ++ S') := by
  have one : ∀ d, (∀ S, abs1 S k d = absC S k d) → abs1 S k d = some (a, S2) → ∃ ws : Store, S2 = ws ++ S ∧ ∀ S', Ag (ws.map (·.1)) S S' → abs1 S' k d = some (a, ws ++ S') := fun d e h => by
    rw [e] at h
    obtain ⟨ws, h1, h2⟩ := absC_loc h
    exact ⟨ws, h1, fun S' h' => by rw [e]; exact h2 S' h'⟩
  cases d with
  | ag ds =>
    simp only [abs1] at h
    split at h
    · rename_i l S1 h1
      simp only [Option.some.injEq, Prod.mk.injEq] at h
      obtain ⟨rfl, rfl⟩ := h
      obtain ⟨w, rfl, k1⟩ := absCs_loc h1
      exact ⟨w, rfl, fun S' h' => by simp only [abs1, k1 S' h']⟩
    · cases h
  | _ => exact one _ (fun _ => rfl) h
theorem abs1s_loc : ∀ {ds : List D} {k : Nat} {S S2 : Store} {l : List AV}, abs1s S k ds = some (l, S2) → ∃ ws : Store, S2 = ws ++ S ∧ ∀ S', Ag (ws.map (·.1)) S S' → abs1s S' k ds = some (l, ws ++ S')
  | [], j, S, S2, l, h => by
    simp only [abs1s, Option.some.injEq, Prod.mk.injEq] at h
    obtain ⟨rfl, rfl⟩ := h
    exact ⟨[], rfl, fun _ _ => rfl⟩
  | d :: ds, j, S, S2, l, h => by
    simp only [abs1s] at h
    split at h
    · rename_i a S1 h1
      split at h
      · rename_i l' S2' h2
        simp only [Option.some.injEq, Prod.mk.injEq] at h
        obtain ⟨rfl, rfl⟩ := h
        obtain ⟨w1, rfl, k1⟩ := abs1_loc h1
        obtain ⟨w2, rfl, k2⟩ := abs1s_loc h2
        refine ⟨w2 ++ w1, by rw [List.append_assoc], fun S' h' => ?_⟩
        rw [List.map_append] at h'
        simp only [abs1s, k1 S' h'.right, k2 (w1 ++ S') (Ag.over h'.left _), List.append_assoc]
      · cases h
    · cases h
theorem absRes_loc {S S2 : Store} {k : Nat} {d : D} {a : AV} (h : absRes S k d = some (a, S2)) : ∃ ws : Store, S2 = ws ++ S ∧ ∀ S', Ag (ws.map (·.1)) S S' → absRes S' k d = some (a, ws ++ S') := by
  have one : ∀ d n, (∀ S, absRes S k d = abs1 S n d) → absRes S k d = some (a, S2) → ∃ ws : Store, S2 = ws ++ S ∧ ∀ S', Ag (ws.map (·.1)) S S' → absRes S' k d = some (a, ws ++ S') := fun d n e h => by
    rw [e] at h
    obtain ⟨ws, h1, h2⟩ := abs1_loc h
    exact ⟨ws, h1, fun S' h' => by rw [e]; exact h2 S' h'⟩
  cases d with
  | tp ds =>
    simp only [absRes] at h
    split at h
    · rename_i l S1 h1
      simp only [Option.some.injEq, Prod.mk.injEq] at h
      obtain ⟨rfl, rfl⟩ := h
      obtain ⟨w, rfl, k1⟩ := abs1s_loc h1
      exact ⟨w, rfl, fun S' h' => by simp only [absRes, k1 S' h']⟩
    · cases h
  | ag ds => exact one _ (1000 + 256 * k) (fun _ => rfl) h
  | _ => exact one _ k (fun _ => rfl) h
theorem backG_loc : ∀ {os : List A} {l : List (Nat × List AV)} {S S2 : Store}, backG S os l = some S2 → ∃ ws : Store, S2 = ws ++ S ∧ ∀ S', Ag (ws.map (·.1)) S S' → backG S' os l = some (ws ++ S')
  | [], [], S, S2, h => by
    simp only [backG, Option.some.injEq] at h
    subst h
    exact ⟨[], rfl, fun _ _ => rfl⟩
  | [], _ :: _, S, S2, h => by simp [backG] at h
  | .v _ :: os, l, S, S2, h => by
    simp only [backG] at h
    obtain ⟨w, e, k⟩ := backG_loc h
    exact ⟨w, e, fun S' h' => by simp only [backG, k S' h']⟩
  | .bx ds :: os, [], S, S2, h => by simp [backG] at h
  | .bx ds :: os, (id, cells) :: l, S, S2, h => by
    simp only [backG] at h
    split at h
    · rename_i l' S1 h1
      obtain ⟨w1, rfl, k1⟩ := absCs_loc h1
      obtain ⟨w2, e, k2⟩ := backG_loc h
      refine ⟨w2 ++ ((id, .box l') :: w1), by rw [e, List.append_assoc]; rfl, fun S' h' => ?_⟩
      rw [List.map_append, List.map_cons] at h'
      have e1 : Ag (w1.map (·.1)) S S' := h'.sub fun i hi => by simp only [List.mem_append, List.mem_cons]; exact .inr (.inr hi)
      have e2 : Ag (w2.map (·.1)) ((id, .box l') :: (w1 ++ S)) ((id, .box l') :: (w1 ++ S')) := Ag.over (ws := (id, .box l') :: w1) h'.left
      simp only [backG, k1 S' e1, k2 _ e2, List.append_assoc, List.cons_append]
    · cases h

end Go.Proofs.YtcaemkcglflmnaaDoor.Vm
