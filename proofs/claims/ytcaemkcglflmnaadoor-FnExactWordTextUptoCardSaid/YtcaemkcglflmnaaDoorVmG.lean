/-
  The abstract machine, part G: compact operations that make structs and slices, and stores into slices. Conditions: none.
-/
import Derived.Test.YtcaemkcglflmnaaDoorVmF
namespace Go.Proofs.YtcaemkcglflmnaaDoor.Vm
open Go Go.RowKit
variable [Tbl]
set_option linter.unusedSimpArgs false
set_option linter.unusedVariables false
set_option linter.unusedSectionVars false

theorem RL_vals {m : Mem} : ∀ (l : List Value), RL m (l.map .val) [] l
  | [] => by simp [RL]
  | v :: l => by simp only [List.map_cons, RL]; exact ⟨v, l, [], [], rfl, rfl, by simp only [R]; exact ⟨trivial, trivial⟩, RL_vals l⟩
theorem RLL_repl {m : Mem} (l : List Value) : ∀ n, RLL m (List.replicate n (l.map .val)) [] (List.replicate n l).flatten
  | 0 => by simp [RLL]
  | n + 1 => by
    simp only [List.replicate_succ, List.flatten_cons, RLL]
    exact ⟨l, _, [], [], rfl, rfl, RL_vals l, RLL_repl l n⟩

theorem repl_get (l : List Value) : ∀ (n j : Nat), j < n * l.length → (List.replicate n l).flatten[j]? = l[j % l.length]?
  | 0, j, h => by simp at h
  | n + 1, j, h => by
    simp only [List.replicate_succ, List.flatten_cons]
    rcases Nat.lt_or_ge j l.length with hj | hj
    · rw [List.getElem?_append_left hj, Nat.mod_eq_of_lt hj]
    · rw [List.getElem?_append_right hj, repl_get l n (j - l.length) (by rw [Nat.add_mul] at h; omega)]
      congr 1
      exact (Nat.mod_eq_sub_mod hj).symm

section
variable {P : Program} {F : Fr} {E : Env} {S : Store} {g : G} {a : Act} {o : Oper}

theorem run_mkSl (h : Rel F E S g a.tmps) {t e : TypeId} {i : TypeInfo} {z : Value} {x x' : Operand} {y y' : Opd} {dst : Nat} {r : Res} (ho : o.op = .makeSlice t x x') (hc : cOpd x = some y) (hc' : cOpd x' = some y')
    (ht : P.underlying t = some (.slice e)) (hi : P.info? e = some i) (hz : i.zero = some z) (hcv : ∀ u ∈ z.cells.toList, cellV u = true) (hd : det E S dst (.mkSl i.size i.bytes z.cells.toList y y') = some r) (hp : r.p) : Runs P F S g (execOp a.eval o) r.av (r.ws ++ S) := by
  simp only [det] at hd
  split at hd
  · rename_i kl n kc n' he he'
    obtain rfl := Option.some.inj hd
    obtain ⟨rfl, h0, hzl, hlim, hid⟩ := hp
    obtain ⟨k, rfl⟩ : ∃ k : Nat, n = (k : Int) := ⟨n.toNat, (Int.toNat_of_nonneg h0).symm⟩
    have hlim' : k * (i.bytes + 1) ≤ 140737488355328 := Int.ofNat_le.1 hlim
    rw [Nat.mul_add, Nat.mul_one] at hlim'
    obtain ⟨w', hr, hown, hgr⟩ := run_make_full (P := P) g.m.w g.m.w.heap.size t e i z i.size ht hi hz rfl kl kc k (by rw [Nat.mul_comm]; omega) (Nat.le_trans (show k ≤ 140737488355328 by omega) (by decide)) (Nat.le_refl _)
    obtain ⟨hown1, hown2⟩ := hown
    rcases hown2 with ⟨hn, _⟩ | ⟨b, cap, cur, hv, hb, hg, h1, h2, h3, h4⟩
    · cases hn
    · simp only [Value.slice.injEq, Option.some.injEq, Addr.mk.injEq] at hv
      obtain ⟨⟨rfl, _, _⟩, _, rfl⟩ := hv
      have hlt := lt_of_block hg
      have key := h.rc.fresh hid (m' := ⟨w', g.m.im⟩) (v := .slice (some ⟨g.m.w.heap.size, 0, none⟩) k k) (bs := [g.m.w.heap.size]) (o := .slc 0 (.sl true i.size (List.replicate k (z.cells.toList.map .val))))
        hgr.size (fun b hb => ⟨rfl, hgr.block b hb (by simp)⟩) (fun b hb => h.rc.wf b (Nat.le_trans hgr.size hb)) hgr.os hgr.tape hgr.output
        (fun htr => ⟨⟨true, i.size, _, rfl⟩, by
          simp only [R, G.upd, if_true]
          refine ⟨fun r hr => by rw [List.eq_of_mem_replicate hr]; simpa using hzl, .inr ⟨g.m.w.heap.size, k, cur, e, (List.replicate k z.cells.toList).flatten, [], rfl, by simp, by simp, h.rc.wf _ (Nat.le_refl _), hg, h3, ?_, ?_, RLL_repl _ _⟩⟩
          · intro j u hj
            have hsz : z.cells.toList.length = i.size := hzl
            have hjl : j < k * z.cells.toList.length := by
              have := (List.getElem?_eq_some_iff.1 hj).1
              simpa [List.length_flatten] using this
            have hu : u ∈ z.cells.toList := by
              have := List.mem_of_getElem? hj
              simp only [List.mem_flatten] at this
              obtain ⟨l, hl, hu⟩ := this
              rw [List.eq_of_mem_replicate hl] at hu
              exact hu
            refine ⟨?_, hcv u hu⟩
            have hcur : cur.toList = (madeCells z.cells (k * i.size)).toList := by
              rw [← h4, List.take_of_length_le (by simp; omega)]
            rw [Nat.zero_add, ← Array.getElem?_toList, hcur, ← hj, repl_get _ _ _ hjl]
            have hzp : 0 < z.cells.size := by
              rcases Nat.eq_zero_or_pos z.cells.size with h' | h'
              · rw [Array.length_toList, h', Nat.mul_zero] at hjl; omega
              · exact h'
            have hzsz : z.cells.size = i.size := by simpa using hzl
            have hlt' : j % z.cells.size < z.cells.size := Nat.mod_lt _ hzp
            simp only [madeCells, Array.toList_map, Array.toList_range, List.getElem?_map, Array.length_toList, Array.getElem?_toList]
            rw [List.getElem?_range (by rw [← hzsz]; simpa using hjl)]
            simp only [Option.map_some]
            rw [Array.getElem?_eq_getElem hlt', getElem!_pos z.cells (j % z.cells.size) hlt']
          · simp [List.length_flatten]; rw [show z.cells.size = i.size by simpa using hzl]⟩) (by simp) (by simp; exact hlt)
      refine ⟨.slice (some ⟨g.m.w.heap.size, 0, none⟩) k k, _, .inl ?_, key.1, ?_, key.2⟩
      · simp [execOp, ho, val_of h hc he, val_of h hc' he', hr, G.upd]
      · simp only [RA, List.cons_append, List.nil_append, sget_cons_eq]
        exact ⟨0, _, rfl, Nat.le_refl _, fun _ => ⟨by simp [D.len], fun _ => by simp [G.upd]⟩⟩
  · cases hd

/-! ### filling -/
theorem fold_put : ∀ (us cs : List Value) (o k : Nat), (us.zipIdx k).foldl (fun (c : Array Value) (p : Value × Nat) => c.setIfInBounds (o + p.2) p.1) cs.toArray = (putAt cs (o + k) us).toArray
  | [], cs, o, k => by simp [putAt]
  | u :: us, cs, o, k => by
    simp only [List.zipIdx_cons, List.foldl_cons, putAt]
    have := fold_put us (cs.set (o + k) u) o (k + 1)
    rw [show o + (k + 1) = o + k + 1 by omega] at this
    rw [← this]
    simp

theorem fold_put' (us cs : List Value) (o : Nat) : (us.toArray.zipIdx).foldl (fun (c : Array Value) (p : Value × Nat) => c.setIfInBounds (o + p.2) p.1) cs.toArray = (putAt cs o us).toArray := by
  have := fold_put us cs o 0
  rw [Nat.add_zero] at this
  rw [← this, ← Array.foldl_toList]
  simp

def partOk (P : Program) (fs : Array Field) (p : Nat × Operand) (q : Nat × Nat × Opd) : Prop :=
  ∃ f i, fs[p.1]? = some f ∧ P.info? f.type = some i ∧ q.1 = f.offset ∧ q.2.1 = i.size ∧ cOpd p.2 = some q.2.2

theorem fill_ok (h : Rel F E S g a.tmps) {place : Nat → Option (Nat × Nat)} : ∀ (ps : List (Nat × Operand)) (qs : List (Nat × Nat × Opd)) (cells : List AV) (us : List Value),
    ps.length = qs.length → (∀ (j : Nat) p q, ps[j]? = some p → qs[j]? = some q → place p.1 = some (q.1, q.2.1) ∧ cOpd p.2 = some q.2.2) → RAs S g cells us → (∀ u ∈ us, cellV u = true) → placesOk S cells.length (qs.map fun q => (q.1, q.2.1, ev E q.2.2)) →
    ∃ us', Instr.fill place us.toArray (ps.map fun p => (p.1, a.eval p.2)) = some us'.toArray ∧ RAs S g (placeAll cells (qs.map fun q => (q.1, q.2.1, ev E q.2.2))) us' ∧ ∀ u ∈ us', cellV u = true
  | [], [], cells, us, _, _, hr, hc, _ => ⟨us, rfl, hr, hc⟩
  | p :: ps, q :: qs, cells, us, hl, hpq, hr, hc, hok => by
    obtain ⟨h1, h2⟩ := hpq 0 p q rfl rfl
    simp only [List.map_cons, placesOk] at hok
    obtain ⟨⟨k1, k2, k3⟩, k4⟩ := hok
    obtain ⟨vs', q1, q2, q3⟩ := cellsOf_ok h.rc k3 (opd_ok h h2)
    have hlv := RAs_length _ _ q2
    have hlu := RAs_length _ _ hr
    have hc' : ∀ u ∈ putAt us q.1 vs', cellV u = true := by
      intro v hv
      rw [putAt_set vs' us q.1 (by omega)] at hv
      simp only [List.mem_append] at hv
      rcases hv with (hv | hv) | hv
      · exact hc v (List.mem_of_mem_take hv)
      · exact q3 v hv
      · exact hc v (List.mem_of_mem_drop hv)
    obtain ⟨us', r1, r2, r3⟩ := fill_ok h ps qs (putAt cells q.1 (cellsOf (ev E q.2.2))) (putAt us q.1 vs') (by simpa using hl) (fun j p' q' hj hj' => hpq (j + 1) p' q' (by simpa using hj) (by simpa using hj')) (RAs_putAt q.1 hr q2) hc' (by rw [putAt_length]; exact k4)
    refine ⟨us', ?_, by simpa only [List.map_cons, placeAll] using r2, r3⟩
    simp only [List.map_cons, Instr.fill, h1]
    have hsz : (a.eval p.2).cells.size = q.2.1 := by rw [q1]; simp [hlv, k1]
    rw [if_neg (by rw [hsz]; simp [hlu]; omega)]
    rw [q1]
    have := fold_put' vs' us q.1
    rw [← r1]
    congr 1

theorem run_places' (w : World) (fs : Array Field) (hfs : ∀ f ∈ fs.toList, ∃ i, P.info? f.type = some i) :
    ∃ pl : Array (Nat × Nat), (fs.mapM fun f => (do pure (f.offset, ← sizeOf f.type) : Sem (Nat × Nat))).run P w = .ok pl w ∧ ∀ (k : Nat) f i, fs[k]? = some f → P.info? f.type = some i → pl[k]? = some (f.offset, i.size) := by
  have go : ∀ (l : List Field), (∀ f ∈ l, ∃ i, P.info? f.type = some i) → ∃ pl : List (Nat × Nat), (l.mapM fun f => (do pure (f.offset, ← sizeOf f.type) : Sem (Nat × Nat))).run P w = .ok pl w ∧ ∀ (k : Nat) f i, l[k]? = some f → P.info? f.type = some i → pl[k]? = some (f.offset, i.size) := by
    intro l
    induction l with
    | nil => intro _; exact ⟨[], by simp [Sem.run_pure], fun k f i hk => by simp at hk⟩
    | cons f l ih =>
      intro hl
      obtain ⟨i, hi⟩ := hl f (by simp)
      obtain ⟨pl, h1, h2⟩ := ih (fun f hf => hl f (by simp [hf]))
      refine ⟨(f.offset, i.size) :: pl, ?_, ?_⟩
      · simp [List.mapM_cons, sizeOf, typeInfo, hi] at h1 ⊢
        rw [h1]; rfl
      · intro k f' i' hk hi'
        cases k with
        | zero => simp at hk; subst hk; rw [hi] at hi'; obtain rfl := Option.some.inj hi'; rfl
        | succ k => simp at hk ⊢; exact h2 k f' i' hk hi'
  obtain ⟨pl, h1, h2⟩ := go fs.toList hfs
  refine ⟨pl.toArray, ?_, ?_⟩
  · rw [Array.mapM_eq_mapM_toList]
    simp only [Sem.run_map, h1, Result.andThen_ok]
  · intro k f i hk hi
    simpa using h2 k f i (by simpa using hk) hi

theorem run_build (h : Rel F E S g a.tmps) {t : TypeId} {it : TypeInfo} {fs : Array Field} {z : Value} {ps : Array (Nat × Operand)} {qs : List (Nat × Nat × Opd)} {dst : Nat} {r : Res} (ho : o.op = .build t ps) (ht : P.underlying t = some (.struct fs)) (hit : P.info? t = some it) (hz : it.zero = some z)
    (hcv : ∀ u ∈ z.cells.toList, cellV u = true) (hfs : ∀ f ∈ fs.toList, ∃ i, P.info? f.type = some i) (hl : ps.toList.length = qs.length) (hpq : ∀ (j : Nat) p q, ps.toList[j]? = some p → qs[j]? = some q → partOk P fs p q)
    (hd : det E S dst (.build z.cells.toList qs) = some r) (hp : r.p) : Runs P F S g (execOp a.eval o) r.av (r.ws ++ S) := by
  simp only [det, Option.some.injEq] at hd
  subst hd
  obtain ⟨pl, h1, h2⟩ := run_places' (P := P) g.m.w fs hfs
  have hp' : placesOk S (List.length (z.cells.toList.map fun v => AV.pu (.val v))) (qs.map fun q => (q.1, q.2.1, ev E q.2.2)) := by
    rw [List.length_map]; exact hp
  obtain ⟨us', k1, k2, k3⟩ := fill_ok h (place := (pl[·]?)) ps.toList qs (z.cells.toList.map fun v => .pu (.val v)) z.cells.toList hl (fun j p q hj hj' => by
    obtain ⟨f, i, e1, e2, e3, e4, e5⟩ := hpq j p q hj hj'
    exact ⟨by rw [h2 _ _ _ e1 e2, e3, e4], e5⟩) (RAs_vals _) hcv hp'
  refine Runs.pure h.rc (v := .agg us'.toArray) ?_ (by simp only [RA]; exact ⟨us', rfl, k2⟩)
  have k1' : Instr.fill (pl[·]?) z.cells (ps.map fun p => (p.1, a.eval p.2)).toList = some us'.toArray := by
    rw [Array.toList_map]
    simpa using k1
  simp only [execOp, ho, Instr.build, zeroValue, typeInfo, hit, hz, run_underlying ht, Sem.run_bind, run_program, Result.andThen_ok, Sem.run_pure, h1]
  rw [show (ps.map fun (x : Nat × Operand) => match x with | (i, x) => (i, a.eval x)) = ps.map fun p => (p.1, a.eval p.2) from rfl, k1']
  simp

theorem plain_bs {m : Mem} {d : D} {bs : List Nat} {v : Value} (hp : plainD d = true) (h : R m d bs v) : bs = [] := by
  cases d with
  | val x => simp only [R] at h; exact h.1
  | sl own sz rows => cases own with
    | true => simp [plainD] at hp
    | false => simp only [R] at h; exact h.2.1
  | rp cells => simp only [R] at h; exact h.1
  | _ => simp [plainD] at hp
theorem plains_bs {m : Mem} : ∀ {ds : List D} {bs : List Nat} {us : List Value}, plains ds = true → RL m ds bs us → bs = []
  | [], bs, us, _, h => by simp only [RL] at h; exact h.1
  | d :: ds, bs, us, hp, h => by
    simp only [plains, Bool.and_eq_true] at hp
    simp only [RL] at h
    obtain ⟨u, us', b1, b2, _, rfl, h3, h4⟩ := h
    rw [plain_bs hp.1 h3, plains_bs hp.2 h4]; rfl
theorem asD_ok {a : AV} {d : D} (h : asD a = some d) : a = .pu d ∧ plainD d = true := by
  unfold asD at h
  split at h
  · split at h
    · rename_i hp; obtain rfl := Option.some.inj h; exact ⟨rfl, hp⟩
    · cases h
  · cases h
theorem asDs_ok {S : Store} {g : G} : ∀ {l : List AV} {ds : List D} {us : List Value}, asDs l = some ds → RAs S g l us → RL g.m ds [] us ∧ plains ds = true ∧ ds.length = l.length ∧ okCells S l
  | [], ds, us, h, k => by simp only [asDs, Option.some.injEq] at h; subst h; simp only [RAs] at k; subst k; simp [RL, plains, okCells]
  | a :: l, ds, us, h, k => by
    simp only [asDs] at h
    split at h
    · rename_i d ds' h1 h2
      obtain rfl := Option.some.inj h
      simp only [RAs] at k
      obtain ⟨u, us', rfl, k1, k2⟩ := k
      obtain ⟨rfl, hp⟩ := asD_ok h1
      obtain ⟨q1, q2, q3, q4⟩ := asDs_ok h2 k2
      simp only [RA] at k1
      refine ⟨by simp only [RL]; exact ⟨u, us', [], [], rfl, rfl, k1, q1⟩, by simp [plains, hp, q2], by simp [q3], ⟨?_, q4⟩⟩
      cases d <;> first | exact hp | exact trivial | (simp [plainD] at hp)
    · cases h

theorem fillS (h : Rel F E S g a.tmps) {sz : Nat} : ∀ (ps : List (Nat × Operand)) (qs : List (Nat × Opd)) (k : Nat) (rows : List (List D)), ps.length = qs.length → (∀ (j : Nat) p q, ps[j]? = some p → qs[j]? = some q → p.1 = q.1 ∧ cOpd p.2 = some q.2) →
    rowsOf sz (qs.map fun q => (q.1, ev E q.2)) k = some rows → ∀ pre post : List Value, pre.length = k * sz → post.length = ps.length * sz →
    ∃ new, Instr.fill (fun i => some (i * sz, sz)) (pre ++ post).toArray (ps.map fun p => (p.1, a.eval p.2)) = some (pre ++ new).toArray ∧ RLL g.m rows [] new ∧ new.length = rows.length * sz ∧ (∀ u ∈ new, cellV u = true) ∧ (∀ r ∈ rows, r.length = sz)
  | [], [], k, rows, _, _, hr, pre, post, h1, h2 => by
    simp only [List.map_nil, rowsOf, Option.some.injEq] at hr
    subst hr
    have : post = [] := List.eq_nil_of_length_eq_zero (by simpa using h2)
    subst this
    exact ⟨[], rfl, by simp [RLL], by simp, by simp, by simp⟩
  | p :: ps, q :: qs, k, rows, hl, hpq, hr, pre, post, h1, h2 => by
    obtain ⟨e1, e2⟩ := hpq 0 p q rfl rfl
    simp only [List.map_cons, rowsOf] at hr
    split at hr
    · rename_i hik
      split at hr
      · rename_i ds rs hds hrs
        split at hr
        · rename_i hsz
          obtain rfl := Option.some.inj hr
          obtain ⟨us', c1, c2, c3⟩ := cellsOf_ok' h (opd_ok h e2) hds
          obtain ⟨q1, q2, q3, q4⟩ := asDs_ok hds c2
          have hlu := RL_length _ _ _ q1
          simp only [List.length_cons, Nat.add_mul, Nat.one_mul] at h2
          obtain ⟨new, n1, n2, n3, n4, n5⟩ := fillS h ps qs (k + 1) rs (by simpa using hl) (fun j p' q' hj hj' => hpq (j + 1) p' q' (by simpa using hj) (by simpa using hj')) hrs (pre ++ us') (post.drop sz) (by simp [h1, hlu, hsz, Nat.add_mul]) (by simp; omega)
          refine ⟨us' ++ new, ?_, by simp only [RLL]; exact ⟨us', new, [], [], rfl, rfl, q1, n2⟩, by simp [n3, hlu, hsz, Nat.add_mul]; omega, ?_, ?_⟩
          · simp only [List.map_cons, Instr.fill]
            have hs : (a.eval p.2).cells.size = sz := by rw [c1]; simp [hlu, hsz]
            rw [if_neg (by rw [hs, e1, hik]; simp [h1]; omega), c1, e1, hik]
            have := fold_put' us' (pre ++ post) (k * sz)
            rw [putAt_set us' (pre ++ post) (k * sz) (by simp [h1, hlu, hsz]; omega)] at this
            have e : (pre ++ post).take (k * sz) ++ us' ++ (pre ++ post).drop (k * sz + us'.length) = (pre ++ us') ++ post.drop sz := by
              rw [← h1, List.take_left, hlu, hsz, ← List.drop_drop, List.drop_left]
            rw [e] at this
            rw [← List.append_assoc, ← n1]
            congr 1
          · intro u hu
            rcases List.mem_append.1 hu with h' | h'
            · exact c3 u h'
            · exact n4 u h'
          · intro r hr
            rcases List.mem_cons.1 hr with rfl | h'
            · exact hsz
            · exact n5 r h'
        · cases hr
      · cases hr
    · cases hr
where
  cellsOf_ok' {F : Fr} {E : Env} {S : Store} {g : G} {a : Act} (h : Rel F E S g a.tmps) {b : AV} {v : Value} {ds : List D} (hr : RA S g b v) (hds : asDs (cellsOf b) = some ds) : ∃ us : List Value, v.cells = us.toArray ∧ RAs S g (cellsOf b) us ∧ ∀ u ∈ us, cellV u = true := by
    have hok : ∀ (l : List AV) (ds : List D), asDs l = some ds → okCells S l := by
      intro l
      induction l with
      | nil => intro ds _; trivial
      | cons x l ih =>
        intro ds h
        simp only [asDs] at h
        split at h
        · rename_i d ds' h1 h2
          obtain ⟨rfl, hp⟩ := asD_ok h1
          refine ⟨?_, ih _ h2⟩
          cases d <;> first | exact hp | exact trivial | (simp [plainD] at hp)
        · cases h
    exact cellsOf_ok h.rc (hok _ _ hds) hr

theorem run_buildSl (h : Rel F E S g a.tmps) {t e : TypeId} {i : TypeInfo} {z : Value} {len : Nat} {ps : Array (Nat × Operand)} {qs : List (Nat × Opd)} {dst : Nat} {r : Res} (ho : o.op = .buildSlice t len ps) (ht : P.underlying t = some (.slice e)) (hi : P.info? e = some i) (hz : i.zero = some z)
    (hlim : len * i.size ≤ 16777216) (hll : len = qs.length) (hl : ps.toList.length = qs.length) (hpq : ∀ (j : Nat) p q, ps.toList[j]? = some p → qs[j]? = some q → p.1 = q.1 ∧ cOpd p.2 = some q.2)
    (hd : det E S dst (.buildSl i.size len qs) = some r) (hp : r.p) : Runs P F S g (execOp a.eval o) r.av (r.ws ++ S) := by
  simp only [det] at hd
  split at hd
  · rename_i rows hrows
    obtain rfl := Option.some.inj hd
    obtain ⟨hid, hlen⟩ := hp
    have hrows' : rowsOf i.size (qs.map fun q => (q.1, ev E q.2)) 0 = some rows := hrows
    have hzl : ((Array.range (len * i.size)).map ((if len * i.size = 0 then #[] else z.cells)[· % (if len * i.size = 0 then #[] else z.cells).size]!)).toList.length = ps.toList.length * i.size := by
      simp [hll]; rw [← hl]; simp
    obtain ⟨new, n1, n2, n3, n4, n5⟩ := fillS h (sz := i.size) ps.toList qs 0 rows hl hpq hrows' [] _ (by simp) hzl
    have hrun : (execOp a.eval o).run P g.m.w = .ok (.value (.slice (some ⟨g.m.w.heap.size, 0, none⟩) len len)) (g.m.w.alloc (.cells new.toArray e)) := by
      have k1 : Instr.fill (fun k => some (k * i.size, i.size)) ((Array.range (len * i.size)).map ((if len * i.size = 0 then #[] else z.cells)[· % (if len * i.size = 0 then #[] else z.cells).size]!)) (ps.map fun p => (p.1, a.eval p.2)).toList = some new.toArray := by
        rw [List.nil_append, List.nil_append, Array.toArray_toList] at n1
        rw [Array.toList_map]
        exact n1
      have hlim' : ¬ len * i.size > 2 ^ 24 := by simp; omega
      simp only [execOp, ho, Instr.buildSlice, sizeOf, zeroValue, typeInfo, hi, hz, run_underlying ht, Sem.run_bind, run_program, Result.andThen_ok, Sem.run_pure, if_neg hlim']
      rw [show (ps.map fun (x : Nat × Operand) => match x with | (i, x) => (i, a.eval x)) = ps.map fun p => (p.1, a.eval p.2) from rfl]
      by_cases h0 : len * i.size = 0
      · simp only [h0, if_true] at k1 ⊢
        rw [pure_bind, k1]
        simp [newRow]
      · simp only [h0, if_false] at k1 ⊢
        rw [Sem.run_bind, Sem.run_bind, Sem.run_bind, run_program, Result.andThen_ok, hi]
        simp only [Sem.run_pure, Result.andThen_ok, hz]
        rw [pure_bind, k1]
        simp [newRow]
    have key := h.rc.fresh hid (m' := ⟨g.m.w.alloc (.cells new.toArray e), g.m.im⟩) (v := .slice (some ⟨g.m.w.heap.size, 0, none⟩) len len) (bs := [g.m.w.heap.size]) (o := .slc 0 (.sl true i.size rows))
      (by simp) (fun b hb => ⟨rfl, heap_alloc_old hb⟩) (fun b hb => h.rc.wf b (by simp at hb; omega)) rfl rfl rfl
      (fun htr => ⟨⟨true, i.size, _, rfl⟩, by
        simp only [R, G.upd, if_true]
        refine ⟨n5, .inr ⟨g.m.w.heap.size, len, _, e, new, [], rfl, by rw [hlen], by omega, h.rc.wf _ (Nat.le_refl _), heap_alloc_new, by simp [n3, hlen], ?_, n3, RLL_mono htr.1 _ _ _ (KeepB.nil _ _) n2⟩⟩
        intro j u hj
        exact ⟨by simpa using hj, n4 u (List.mem_of_getElem? hj)⟩⟩) (by simp) (by simp)
    refine ⟨.slice (some ⟨g.m.w.heap.size, 0, none⟩) len len, _, .inl hrun, key.1, ?_, key.2⟩
    simp only [RA, List.cons_append, List.nil_append, sget_cons_eq]
    exact ⟨0, _, rfl, Nat.le_refl _, fun _ => ⟨by simp [D.len, hlen], fun _ => by simp [G.upd]⟩⟩
  · cases hd

theorem run_str (h : Rel F E S g a.tmps) {s t e : TypeId} {x : Operand} {y : Opd} {dst : Nat} {r : Res} (ho : o.op = .convert s t x) (hs : P.underlying s = some (.slice e)) (he8 : P.underlying e = some (.int .u8)) (ht : P.underlying t = some .string) (hc : cOpd x = some y) (hd : det E S dst (.str y) = some r) (hp : r.p) :
    Runs P F S g (execOp a.eval o) r.av (r.ws ++ S) := by
  have bytes : ∀ {m : Mem} (rows : List (List D)) (ns : List Int) (us : List Value) (bs : List Nat), byteRows rows = some ns → RLL m rows bs us → us = ns.map (Value.int .u8) := by
    intro m rows
    induction rows with
    | nil => intro ns us bs hb hr; simp only [byteRows, Option.some.injEq] at hb; subst hb; simp only [RLL] at hr; simp [hr.2]
    | cons r rows ih =>
      intro ns us bs hb hr
      unfold byteRows at hb
      split at hb
      · rename_i he; cases he
      · rename_i n rs he
        simp only [List.cons.injEq] at he
        obtain ⟨rfl, rfl⟩ := he
        obtain ⟨ns', h1, rfl⟩ := Option.map_eq_some_iff.1 hb
        simp only [RLL, RL, R] at hr
        obtain ⟨u1, u2, b1, b2, rfl, rfl, ⟨u, us', c1, c2, rfl, _, ⟨_, rfl⟩, _, rfl⟩, h4⟩ := hr
        rw [ih ns' u2 b2 h1 h4]; rfl
      · cases hb
  simp only [det] at hd
  split at hd
  · rename_i id st n he
    split at hd
    · rename_i st' own sz rows hso
      split at hd
      · rename_i ns hns
        obtain rfl := Option.some.inj hd
        obtain ⟨rfl, rfl⟩ := hp
        have h1 := so_val h hc he hso rfl
        obtain ⟨_, hr⟩ := h.rc.obj id _ hso
        refine Runs.pure h.rc (v := .string (ns.foldl (fun r n => r.push (UInt8.ofNat n.toNat)) ByteArray.empty)) ?_ (by simp only [RA, R, vs]; exact ⟨trivial, trivial⟩)
        have hcv : ∀ A l c, (convert s t (.slice A l c)).run P g.m.w = (Conv.bytesToString (.slice A l c)).run P g.m.w := fun A l c => run_convert_bytes_string g.m.w s t e A l c hs he8 ht
        have fin : (convert s t (g.loc id)).run P g.m.w = .ok (.string (ns.foldl (fun r n => r.push (UInt8.ofNat n.toNat)) ByteArray.empty)) g.m.w := by
          have hszlen : ∀ (us : List Value) (bs : List Nat), RLL g.m rows bs us → us.length = rows.length ∧ us = ns.map (Value.int .u8) := fun us bs hu => by
            have e := bytes rows ns us bs hns hu
            refine ⟨?_, e⟩
            have : ∀ (rows : List (List D)) (ns : List Int), byteRows rows = some ns → ns.length = rows.length := by
              intro rows
              induction rows with
              | nil => intro ns hb; simp only [byteRows, Option.some.injEq] at hb; subst hb; rfl
              | cons r rows ih =>
                intro ns hb
                unfold byteRows at hb
                split at hb
                · rename_i he; cases he
                · rename_i n rs he
                  simp only [List.cons.injEq] at he
                  obtain ⟨rfl, rfl⟩ := he
                  obtain ⟨ns', h1, rfl⟩ := Option.map_eq_some_iff.1 hb
                  simp [ih ns' h1]
                · cases hb
            rw [e, List.length_map, this rows ns hns]
          by_cases hempty : rows = []
          · subst hempty
            simp only [byteRows, Option.some.injEq] at hns
            subst hns
            obtain ⟨A, c, hl⟩ := R_sl_cell hr
            rw [hl, hcv]
            cases A <;> simp [Conv.bytesToString, loadCells, loadCellsFrom] <;> rfl
          · cases own with
            | true =>
              simp only [R] at hr
              rcases hr.2 with ⟨he, _⟩ | ⟨b, c, arr, t', us, bs', _, h2, h3, h4, h5, h6, h7, h8, h9⟩
              · exact absurd he hempty
              · obtain ⟨hl, rfl⟩ := hszlen us bs' h9
                rw [h2, hcv]
                have := run_loadCells_list (P := P) g.m.w ⟨b, 0, none⟩ (ns.map (Value.int .u8)) (fun j v hj => by rw [addr_add, cell_at h5]; exact (h7 j v hj).1)
                rw [hl] at this
                exact run_bytesToString g.m.w _ _ _ ns this
            | false =>
              simp only [R] at hr
              obtain ⟨_, _, A, c, h2, h3, hr⟩ := hr
              rcases hr with he | ⟨b, off, arr, t', fz, us, rfl, h5, h6, h7, h8, h9⟩
              · exact absurd he hempty
              · obtain ⟨hl, rfl⟩ := hszlen us [] h9
                rw [h2, hcv]
                have := run_loadCells_list (P := P) g.m.w ⟨b, off, none⟩ (ns.map (Value.int .u8)) (fun j v hj => by rw [addr_add, cell_at h6]; exact (h7 j v hj).1)
                rw [hl] at this
                exact run_bytesToString g.m.w _ _ _ ns this
        simp [execOp, ho, h1, fin]
      · cases hd
    · cases hd
  · cases hd

end
end Go.Proofs.YtcaemkcglflmnaaDoor.Vm
