/-
  The abstract machine, part E: the rest of the compact operations. Conditions: none.
-/
import Derived.Test.YtcaemkcglflmnaaDoorVmD
namespace Go.Proofs.YtcaemkcglflmnaaDoor.Vm
open Go Go.RowKit
variable [Tbl]
set_option linter.unusedSimpArgs false
set_option linter.unusedVariables false
set_option linter.unusedSectionVars false

theorem bytes_beq (a b : ByteArray) : (a.toList == b.toList) = decide (a = b) := by
  rw [ByteArray.toList_eq, ByteArray.toList_eq]
  by_cases h : a = b
  · subst h; simp
  · simp only [h, decide_false]
    rw [beq_eq_false_iff_ne]
    exact fun e => h (ByteArray.ext (Array.toList_inj.mp e))

section
variable {P : Program} {F : Fr} {E : Env} {S : Store} {g : G} {a : Act} {o : Oper}

theorem val_of {x : Operand} {y : Opd} {v : Value} (h : Rel F E S g a.tmps) (hc : cOpd x = some y) (he : ev E y = .pu (.val v)) : a.eval x = v := by
  have := opd_ok h hc
  rw [he] at this
  simp only [RA, R] at this
  exact this.2

theorem run_bin_int (h : Rel F E S g a.tmps) {op : BinOp} {t u : TypeId} {x x' : Operand} {y y' : Opd} {k : IntKind} {n n' : Int} (ho : o.op = .binOp op t x x' u) (hc : cOpd x = some y) (hc' : cOpd x' = some y')
    (he : ev E y = .pu (.val (.int k n))) (he' : ev E y' = .pu (.val (.int k n'))) {p : Prop} {r : AV} (hb : binI op k n n' = some (p, r)) (hp : p) : Runs P F S g (execOp a.eval o) r ([] ++ S) := by
  have h1 := val_of h hc he
  have h2 := val_of h hc' he'
  cases op <;> simp only [binI, Option.some.injEq, Prod.mk.injEq, reduceCtorEq] at hb <;> obtain ⟨rfl, rfl⟩ := hb <;>
    refine Runs.pure h.rc ?_ (by simp only [RA, R, vi, vb]; exact ⟨trivial, rfl⟩) <;>
    simp [execOp, ho, h1, h2, binOp, eqGuard, Op.intArith, Op.intDiv, Op.intCmp, hp] <;> rfl

theorem run_bin_str (h : Rel F E S g a.tmps) {op : BinOp} {t u : TypeId} {x x' : Operand} {y y' : Opd} {n n' : ByteArray} (ho : o.op = .binOp op t x x' u) (hc : cOpd x = some y) (hc' : cOpd x' = some y')
    (he : ev E y = .pu (.val (.string n))) (he' : ev E y' = .pu (.val (.string n'))) {p : Prop} {r : AV} (hb : binS op n n' = some (p, r)) (hp : p) : Runs P F S g (execOp a.eval o) r ([] ++ S) := by
  have h1 := val_of h hc he
  have h2 := val_of h hc' he'
  cases op <;> simp only [binS, Option.some.injEq, Prod.mk.injEq, reduceCtorEq] at hb <;> obtain ⟨rfl, rfl⟩ := hb <;>
    refine Runs.pure h.rc ?_ (by simp only [RA, R, vs, vb]; exact ⟨trivial, rfl⟩)
  · have : ¬ ((n.size + n'.size : Nat) : Int) > IntKind.i64.max := by
      have e : IntKind.i64.max = 9223372036854775807 := by decide
      rw [e]; omega
    simp [execOp, ho, h1, h2, binOp, eqGuard, Op.stringOp]
    omega
  · simp [execOp, ho, h1, h2, binOp, eqGuard, Op.stringOp, bytes_beq]
  · simp [execOp, ho, h1, h2, binOp, eqGuard, Op.stringOp, bytes_beq]

theorem equal_bool {t : TypeId} (ht : P.underlying t = some .bool) (x y : Bool) (w : World) : (Op.equal t (.bool x) (.bool y)).run P w = .ok (x == y) w := by
  have e : Op.maxDepth = 9999 + 1 := rfl
  unfold Op.equal
  rw [e, Op.equalIn]
  simp [run_underlying ht]

theorem run_beq (h : Rel F E S g a.tmps) {neg : Bool} {op : BinOp} {t u : TypeId} {x x' : Operand} {y y' : Opd} {n n' : Bool} (ho : o.op = .binOp op t x x' u) (hop : op = if neg then .neq else .eql) (ht : P.underlying t = some .bool) (hc : cOpd x = some y) (hc' : cOpd x' = some y')
    (he : ev E y = .pu (.val (.bool n))) (he' : ev E y' = .pu (.val (.bool n'))) : Runs P F S g (execOp a.eval o) (vb (if neg then !decide (n = n') else decide (n = n'))) ([] ++ S) := by
  have h1 := val_of h hc he
  have h2 := val_of h hc' he'
  refine Runs.pure h.rc (v := .bool (if neg then !decide (n = n') else decide (n = n'))) ?_ (by simp only [RA, R, vb]; exact ⟨trivial, trivial⟩)
  subst hop
  cases neg <;> simp [execOp, ho, h1, h2, binOp, eqGuard, equal_bool ht] <;> cases n <;> cases n' <;> rfl

theorem run_un (h : Rel F E S g a.tmps) {op : UnOp} {t : TypeId} {x : Operand} {y : Opd} {dst : Nat} {r : Res} (ho : o.op = .unOp op t x) (hc : cOpd x = some y) (hd : det E S dst (.un op y) = some r) : Runs P F S g (execOp a.eval o) r.av (r.ws ++ S) := by
  simp only [det] at hd
  split at hd
  · rename_i b he
    obtain rfl := Option.some.inj hd
    have h1 := val_of h hc he
    exact Runs.pure h.rc (v := .bool (!b)) (by simp [execOp, ho, h1, Op.unary]) (by simp only [RA, R, vb]; exact ⟨trivial, trivial⟩)
  · rename_i k n he
    obtain rfl := Option.some.inj hd
    have h1 := val_of h hc he
    exact Runs.pure h.rc (v := .int k (k.wrap (0 - n))) (by simp [execOp, ho, h1, Op.unary, Op.intArith]) (by simp only [RA, R, vi]; exact ⟨trivial, trivial⟩)
  · cases hd

theorem so_val (h : Rel F E S g a.tmps) {x : Operand} {y : Opd} {id st n : Nat} {d : D} (hc : cOpd x = some y) (he : ev E y = .so id st n) (hs : sget S id = some (.slc st d)) (hn : n = d.len) : a.eval x = g.loc id := by
  have := opd_ok h hc
  rw [he] at this
  simp only [RA] at this
  obtain ⟨st', d', h1, h2, h3⟩ := this
  rw [hs] at h1
  simp only [Option.some.injEq, OB.slc.injEq] at h1
  obtain ⟨rfl, rfl⟩ := h1
  exact (h3 rfl).2 hn

theorem slc_val {F : Fr} {S : Store} {g : G} (hrc : RC F S g) {id st : Nat} {d : D} (hs : sget S id = some (.slc st d)) : ∃ A c, g.loc id = .slice A d.len c := by
  obtain ⟨⟨own, sz, rows, rfl⟩, hr⟩ := hrc.obj id _ hs
  exact R_sl_cell hr

theorem run_len (h : Rel F E S g a.tmps) {s : Bool} {t ty : TypeId} {x : Operand} {y : Opd} {dst : Nat} {r : Res} (ho : o.op = .call { callee := .builtin .len, args := #[x], argTypes := #[t] }) (hc : cOpd x = some y)
    (ht : if s then P.underlying t = some .string else ∃ e, P.underlying t = some (.slice e)) (hd : det E S dst (.len s y) = some r) (hp : r.p) : Runs P F S g (execOp a.eval o) r.av (r.ws ++ S) := by
  have slice : ∀ A n c, a.eval x = .slice A n c → (∃ e, P.underlying t = some (.slice e)) → (execOp a.eval o).run P g.m.w = .ok (.value (.int .i64 n)) g.m.w := by
    rintro A n c he ⟨e, hte⟩
    simp [execOp, ho, resolve, invoke, builtin, he, Builtin.len_, run_underlying hte, goInt]
  have hv := opd_ok h hc
  simp only [det] at hd
  split at hd
  · rename_i own sz rows he
    obtain rfl := Option.some.inj hd
    rw [he] at hv
    obtain ⟨A, c, hv⟩ := R_sl_cell hv
    exact Runs.pure h.rc (v := .int .i64 rows.length) (slice A _ c hv (by simpa using ht)) (by simp only [RA, R, vi]; exact ⟨trivial, trivial⟩)
  · rename_i A n c he
    obtain rfl := Option.some.inj hd
    exact Runs.pure h.rc (v := .int .i64 n) (slice A _ c (val_of h hc he) (by simpa using ht)) (by simp only [RA, R, vi]; exact ⟨trivial, trivial⟩)
  · rename_i s he
    obtain rfl := Option.some.inj hd
    have h1 := val_of h hc he
    have hts : P.underlying t = some .string := by simpa using ht
    refine Runs.pure h.rc (v := .int .i64 s.size) ?_ (by simp only [RA, R, vi]; exact ⟨trivial, trivial⟩)
    simp [execOp, ho, resolve, invoke, builtin, h1, Builtin.len_, run_underlying hts, goInt]
  · rename_i id st n he
    split at hd
    · rename_i st' d hs
      obtain rfl := Option.some.inj hd
      obtain ⟨rfl, rfl⟩ := hp
      have h1 := so_val h hc he hs rfl
      obtain ⟨A, c, h2⟩ := slc_val h.rc hs
      exact Runs.pure h.rc (v := .int .i64 d.len) (slice A _ c (h1.trans h2) (by simpa using ht)) (by simp only [RA, R, vi]; exact ⟨trivial, trivial⟩)
    · cases hd
  · cases hd

theorem run_fieldPlace {w : World} {b off : Nat} {f : Field} {i : TypeInfo} (hi : P.info? f.type = some i) (hs : i.size ≠ 0) : (fieldPlace ⟨b, off, none⟩ f).run P w = .ok ⟨b, off + f.offset, none⟩ w := by
  simp [fieldPlace, sizeOf, typeInfo, hi, hs, addr_add]

theorem run_fadr (h : Rel F E S g a.tmps) {t : TypeId} {x : Operand} {y : Opd} {k : Nat} {fs : Array Field} {f : Field} {i : TypeInfo} {dst : Nat} {r : Res} (ho : o.op = .fieldAddr t x k) (hc : cOpd x = some y) (ht : P.underlying t = some (.struct fs)) (hf : fs[k]? = some f) (hi : P.info? f.type = some i) (hs : i.size ≠ 0)
    (hd : det E S dst (.fadr f.offset y) = some r) (hp : r.p) : Runs P F S g (execOp a.eval o) r.av (r.ws ++ S) := by
  have step : ∀ b off, a.eval x = ptr b off → (execOp a.eval o).run P g.m.w = .ok (.value (ptr b (off + f.offset))) g.m.w := by
    intro b off he
    simp [execOp, ho, Instr.fieldAt, run_underlying ht, hf, he, ptr, Instr.sureAddr, run_fieldPlace hi hs]
  have hv := opd_ok h hc
  simp only [det] at hd
  split at hd
  · rename_i id off he
    obtain rfl := Option.some.inj hd
    rw [he] at hv
    simp only [RA] at hv
    obtain ⟨h1, b, h2, h3⟩ := hv
    refine Runs.pure h.rc (step b off h3) ?_
    simp only [RA]
    exact ⟨h1, b, h2, rfl⟩
  · rename_i cells he
    obtain rfl := Option.some.inj hd
    rw [he] at hv
    simp only [RA, R] at hv
    obtain ⟨h0, b, off, arr, t', fz, us, h1, h2, h3, h4, h5⟩ := hv
    refine Runs.pure h.rc (step b off h1) ?_
    simp only [RA, R]
    exact ⟨trivial, b, off + f.offset, arr, t', fz, us.drop f.offset, rfl, h2, h3, h4.drop_ _, RL_nil_drop _ h5⟩
  · rename_i id st n ix j he
    rw [he] at hv
    simp only [RA] at hv
    obtain ⟨st', d, h1, h2, h3⟩ := hv
    rw [h1] at hd
    simp only at hd
    obtain rfl := Option.some.inj hd
    obtain ⟨rfl, rfl⟩ := hp
    obtain ⟨b, c, h4, h5⟩ := (h3 rfl).2 rfl
    refine Runs.pure h.rc (step b _ h5) ?_
    simp only [RA]
    exact ⟨st, d, h1, Nat.le_refl _, fun _ => ⟨Nat.le_refl _, fun _ => ⟨b, c, h4, by rw [Nat.add_assoc]⟩⟩⟩
  · cases hd

theorem run_ext (h : Rel F E S g a.tmps) {x : Operand} {y : Opd} {k dst : Nat} {r : Res} (ho : o.op = .extract x k) (hc : cOpd x = some y) (hd : det E S dst (.ext y k) = some r) : Runs P F S g (execOp a.eval o) r.av (r.ws ++ S) := by
  have hv := opd_ok h hc
  simp only [det] at hd
  split at hd
  · rename_i l he
    split at hd
    · rename_i c hl
      obtain rfl := Option.some.inj hd
      rw [he] at hv
      simp only [RA] at hv
      obtain ⟨us, h1, h2⟩ := hv
      obtain ⟨u, hu, hr⟩ := RAs_get h2 hl
      exact Runs.pure h.rc (v := u) (by simp [execOp, ho, h1, Instr.extract, hu]) hr
    · cases hd
  · cases hd

theorem run_nilc (h : Rel F E S g a.tmps) {x : Operand} {y : Opd} {dst : Nat} {r : Res} (ho : o.op = .nilCheck x) (hc : cOpd x = some y) (hd : det E S dst (.nilc y) = some r) : Runs P F S g (execOp a.eval o) r.av (r.ws ++ S) := by
  have hv := opd_ok h hc
  simp only [det] at hd
  split at hd
  · rename_i id off he
    obtain rfl := Option.some.inj hd
    rw [he] at hv
    refine Runs.pure h.rc (v := a.eval x) ?_ hv
    simp only [RA] at hv
    obtain ⟨_, b, _, hv⟩ := hv
    simp [execOp, ho, hv, ptr]
  · rename_i cells he
    obtain rfl := Option.some.inj hd
    rw [he] at hv
    refine Runs.pure h.rc (v := a.eval x) ?_ hv
    simp only [RA, R] at hv
    obtain ⟨_, b, off, arr, t', fz, us, hv, _⟩ := hv
    simp [execOp, ho, hv, ptr]
  · rename_i f caps he
    obtain rfl := Option.some.inj hd
    rw [he] at hv
    refine Runs.pure h.rc (v := a.eval x) ?_ hv
    simp only [RA] at hv
    obtain ⟨us, hv, _⟩ := hv
    simp [execOp, ho, hv]
  · rename_i f caps he
    obtain rfl := Option.some.inj hd
    rw [he] at hv
    refine Runs.pure h.rc (v := a.eval x) ?_ hv
    simp only [RA, R] at hv
    obtain ⟨us, hv, _⟩ := hv
    simp [execOp, ho, hv]
  · cases hd

theorem run_toInt (h : Rel F E S g a.tmps) {s t : TypeId} {e : TypeDesc} {k : IntKind} {x : Operand} {y : Opd} {dst : Nat} {r : Res} (ho : o.op = .convert s t x) (hs : P.underlying s = some e) (ht : P.underlying t = some (.int k)) (hc : cOpd x = some y) (hd : det E S dst (.toInt k y) = some r) :
    Runs P F S g (execOp a.eval o) r.av (r.ws ++ S) := by
  simp only [det] at hd
  split at hd
  · rename_i k' n he
    obtain rfl := Option.some.inj hd
    have h1 := val_of h hc he
    refine Runs.pure h.rc (v := .int k (k.wrap n)) ?_ (by simp only [RA, R, vi]; exact ⟨trivial, trivial⟩)
    simp [execOp, ho, h1, convert, run_underlying hs, run_underlying ht, Conv.intToInt]
  · cases hd

theorem opds_ok (h : Rel F E S g a.tmps) : ∀ {xs : List Operand} {ys : List Opd}, cOpds xs = some ys → RAs S g (ys.map (ev E)) (xs.map a.eval)
  | [], ys, hc => by simp only [cOpds, Option.some.injEq] at hc; subst hc; simp [RAs]
  | x :: xs, ys, hc => by
    simp only [cOpds] at hc
    split at hc
    · rename_i y s h1 h2
      obtain rfl := Option.some.inj hc
      simp only [List.map_cons, RAs]
      exact ⟨_, _, rfl, opd_ok h h1, opds_ok h h2⟩
    · cases hc

theorem run_mkfn (h : Rel F E S g a.tmps) {f : Nat} {xs : Array Operand} {ys : List Opd} (ho : o.op = .makeFunc (.func f) #[] xs) (hc : cOpds xs.toList = some ys) : Runs P F S g (execOp a.eval o) (.cl f (ys.map (ev E))) ([] ++ S) := by
  refine Runs.pure h.rc (v := .func (.func f) #[] (xs.toList.map a.eval).toArray) (by simp [execOp, ho, Instr.makeFunc]; rw [← Array.toList_map]) ?_
  simp only [RA]
  exact ⟨(xs.toList.map a.eval), rfl, opds_ok h hc⟩

theorem run_field (h : Rel F E S g a.tmps) {t : TypeId} {x : Operand} {y : Opd} {k : Nat} {fs : Array Field} {f : Field} {i : TypeInfo} {d : TypeDesc} {agg : Bool} {dst : Nat} {r : Res} (ho : o.op = .field t x k) (hc : cOpd x = some y) (ht : P.underlying t = some (.struct fs)) (hf : fs[k]? = some f)
    (hi : P.info? f.type = some i) (hdd : P.underlying f.type = some d) (ha : agg = aggT d) (hd : det E S dst (.field f.offset i.size agg y) = some r) (hp : r.p) : Runs P F S g (execOp a.eval o) r.av (r.ws ++ S) := by
  have hv := opd_ok h hc
  have hagg : (isAgg f.type).run P g.m.w = .ok agg g.m.w := by
    unfold isAgg
    simp only [Sem.run_bind, run_underlying hdd, Result.andThen_ok]
    rw [ha]; cases d <;> rfl
  simp only [det] at hd
  split at hd
  · rename_i l he
    rw [he] at hv
    simp only [RA] at hv
    obtain ⟨us, h1, h2⟩ := hv
    split at hd
    · rename_i hag
      obtain rfl := Option.some.inj hd
      subst hag
      refine Runs.pure h.rc (v := .agg ((us.drop f.offset).take i.size).toArray) ?_ (by simp only [RA]; exact ⟨_, rfl, RAs_sub _ _ h2⟩)
      simp [execOp, ho, h1, Instr.field, run_underlying ht, hf, asAgg, part, hagg, sizeOf, typeInfo, hi, List.take_drop, Nat.add_comm]
    · rename_i hag
      split at hd
      · rename_i c hl
        obtain rfl := Option.some.inj hd
        obtain ⟨u, hu, hr⟩ := RAs_get h2 hl
        have : agg = false := by simpa using hag
        subst this
        refine Runs.pure h.rc (v := u) ?_ hr
        simp [execOp, ho, h1, Instr.field, run_underlying ht, hf, asAgg, part, hagg, hu]
      · cases hd
  · cases hd

theorem run_iadr (h : Rel F E S g a.tmps) {t e : TypeId} {x z : Operand} {y u : Opd} {i : TypeInfo} {dst : Nat} {r : Res} (ho : o.op = .indexAddr t x z) (hc : cOpd x = some y) (hcz : cOpd z = some u) (ht : P.underlying t = some (.slice e)) (hi : P.info? e = some i)
    (hd : det E S dst (.iadr i.size y u) = some r) (hp : r.p) : Runs P F S g (execOp a.eval o) r.av (r.ws ++ S) := by
  have step : ∀ b off len c k (n : Int), a.eval x = .slice (some ⟨b, off, none⟩) len c → a.eval z = .int k n → 0 ≤ n → n < (len : Int) → (execOp a.eval o).run P g.m.w = .ok (.value (ptr b (off + n.toNat * i.size))) g.m.w := by
    intro b off len c k n h1 h2 h3 h4
    simp [execOp, ho, h1, h2, Instr.indexAt, run_underlying ht, asIntOf, h3, h4, sizeOf, typeInfo, hi, ptr, addr_add]
  have hv := opd_ok h hc
  simp only [det] at hd
  split at hd
  · rename_i sz' rows k n he he'
    split at hd
    · rename_i row hrow
      obtain rfl := Option.some.inj hd
      obtain ⟨rfl, h0⟩ := hp
      have hlt := (List.getElem?_eq_some_iff.1 hrow).1
      rw [he] at hv
      simp only [RA, R] at hv
      obtain ⟨q0, _, A, c, q2, q3, q4⟩ := hv
      rcases q4 with rfl | ⟨b, off, arr, t', fz, us, rfl, q5, q6, q7, q8, q9⟩
      · simp at hlt
      · obtain ⟨b1, b2, b3, u1, u2, u3, hb, rfl, k3, k4, k5, k6, k7⟩ := RLL_row rows _ _ q0 q9 n.toNat row hrow
        obtain ⟨rfl, hb2⟩ : b1 = [] ∧ b2 ++ b3 = [] := by simpa [eq_comm] using hb
        obtain ⟨rfl, rfl⟩ : b2 = [] ∧ b3 = [] := by simpa using hb2
        refine Runs.pure h.rc (step b off _ c k n q2 (val_of h hcz he') h0 (by omega)) ?_
        simp only [RA, R]
        refine ⟨trivial, b, _, arr, t', fz, u2, rfl, q5, q6, ?_, k6⟩
        have := q7.mid
        rwa [k3] at this
    · cases hd
  · rename_i id st k kk n he he'
    split at hd
    · rename_i st' sz' rows hs
      obtain rfl := Option.some.inj hd
      obtain ⟨rfl, rfl, rfl, h0, hlt⟩ := hp
      have h1 := so_val h hc he hs rfl
      obtain ⟨_, hr⟩ := h.rc.obj id _ hs
      have hlt' : 0 < rows.length := by omega
      have hloc : ∃ b c, g.loc id = .slice (some ⟨b, 0, none⟩) rows.length c := by
        simp only [R] at hr
        rcases hr.2 with ⟨rfl, _⟩ | ⟨b, c, arr, t, us, bs', _, h2, _⟩
        · simp at hlt'
        · exact ⟨b, c, h2⟩
      obtain ⟨b, c, hl⟩ := hloc
      refine Runs.pure h.rc (v := ptr b (n.toNat * i.size)) ?_ ?_
      · have := step b 0 _ c kk n (h1.trans hl) (val_of h hcz he') h0 hlt
        simpa using this
      · simp only [RA]
        exact ⟨st, _, hs, Nat.le_refl _, fun _ => ⟨Nat.le_refl _, fun _ => ⟨b, c, hl, rfl⟩⟩⟩
    · rename_i st' sz' rows hs
      split at hd
      · rename_i row hrow
        obtain rfl := Option.some.inj hd
        obtain ⟨rfl, rfl, rfl, h0⟩ := hp
        have hlt := (List.getElem?_eq_some_iff.1 hrow).1
        have h1 := so_val h hc he hs rfl
        obtain ⟨_, hr⟩ := h.rc.obj id _ hs
        rw [← h1] at hr
        simp only [R] at hr
        obtain ⟨q0, _, A, c, q2, q3, q4⟩ := hr
        rcases q4 with rfl | ⟨b, off, arr, t', fz, us, rfl, q5, q6, q7, q8, q9⟩
        · simp at hlt
        · obtain ⟨b1, b2, b3, u1, u2, u3, hb, rfl, k3, k4, k5, k6, k7⟩ := RLL_row rows _ _ q0 q9 n.toNat row hrow
          obtain ⟨rfl, hb2⟩ : b1 = [] ∧ b2 ++ b3 = [] := by simpa [eq_comm] using hb
          obtain ⟨rfl, rfl⟩ : b2 = [] ∧ b3 = [] := by simpa using hb2
          refine Runs.pure h.rc (step b off _ c kk n q2 (val_of h hcz he') h0 (by omega)) ?_
          simp only [RA, R]
          refine ⟨trivial, b, _, arr, t', fz, u2, rfl, q5, q6, ?_, k6⟩
          have := q7.mid
          rwa [k3] at this
      · cases hd
    · cases hd
  · cases hd

end
end Go.Proofs.YtcaemkcglflmnaaDoor.Vm
