/-
  The abstract machine, part F: the compact operations on slices. Conditions: none.
-/
import Derived.Test.YtcaemkcglflmnaaDoorVmE
namespace Go.Proofs.YtcaemkcglflmnaaDoor.Vm
open Go Go.RowKit
variable [Tbl]
set_option linter.unusedSimpArgs false
set_option linter.unusedVariables false
set_option linter.unusedSectionVars false

section
variable {P : Program} {F : Fr} {E : Env} {S : Store} {g : G} {a : Act} {o : Oper}

theorem bytes_get (s : ByteArray) (k : Nat) : (s[k]? : Option UInt8) = s.data.toList[k]? := by
  by_cases h : k < s.size
  · have h' : k < s.data.toList.length := by simpa using h
    rw [getElem?_pos s k h, List.getElem?_eq_getElem h']
    rfl
  · rw [getElem?_neg s k h, List.getElem?_eq_none (by simpa using Nat.le_of_not_lt h)]

theorem run_idx (h : Rel F E S g a.tmps) {t : TypeId} {x z : Operand} {y u : Opd} {dst : Nat} {r : Res} (ho : o.op = .index t x z) (hc : cOpd x = some y) (hcz : cOpd z = some u) (ht : P.underlying t = some .string)
    (hd : det E S dst (.idx y u) = some r) (hp : r.p) : Runs P F S g (execOp a.eval o) r.av (r.ws ++ S) := by
  simp only [det] at hd
  split at hd
  · rename_i s k n he he'
    split at hd
    · rename_i b hb
      obtain rfl := Option.some.inj hd
      have h0 : 0 ≤ n := hp
      refine Runs.pure h.rc (v := .int .u8 b.toNat) ?_ (by simp only [RA, R, vi]; exact ⟨trivial, trivial⟩)
      simp [execOp, ho, val_of h hc he, val_of h hcz he', Instr.index, asIntOf, run_underlying ht, h0, bytes_get]
      rw [show s.data[n.toNat]? = some b by simpa using hb]
      rfl
    · cases hd
  · cases hd

/-- The bounds of a cut. -/
theorem cut_b (h : Rel F E S g a.tmps) {l : Option Operand} {l' : Option Opd} (hl : l.map cOpd = l'.map some) {df n : Int} (hn : (match l'.map (ev E) with | none => some df | some (.pu (.val (.int _ n))) => some n | _ => none) = some n) :
    (l.map a.eval = none ∧ n = df) ∨ ∃ k, l.map a.eval = some (.int k n) := by
  cases l' with
  | none =>
    left
    cases l with
    | none => simp at hn; exact ⟨rfl, hn.symm⟩
    | some x => simp at hl
  | some y =>
    right
    cases l with
    | none => simp at hl
    | some x =>
      simp at hl
      simp only [Option.map_some] at hn
      split at hn
      · rename_i he; cases he
      · rename_i k n' he
        obtain rfl := Option.some.inj hn
        exact ⟨k, by simp [val_of h hl (Option.some.inj he)]⟩
      · cases hn

theorem run_bounds {w : World} {isS : Bool} {len cap : Nat} {lo hi : Option Value} {l h : Int} (hlo : (lo = none ∧ l = 0) ∨ ∃ k, lo = some (.int k l)) (hhi : (hi = none ∧ h = len) ∨ ∃ k, hi = some (.int k h))
    (h0 : 0 ≤ l) (h1 : l ≤ h) (h2 : h ≤ (len : Int)) (h3 : len ≤ cap) : (Instr.sliceBounds isS len cap lo hi none).run P w = .ok (l.toNat, h.toNat, cap) w := by
  have h4 : h ≤ (cap : Int) := by omega
  have h5 : 0 ≤ h := by omega
  have h6 : (h.toNat : Int) = h := Int.toNat_of_nonneg h5
  rcases hlo with ⟨rfl, rfl⟩ | ⟨k, rfl⟩ <;> rcases hhi with ⟨rfl, rfl⟩ | ⟨k', rfl⟩ <;> simp [Instr.sliceBounds, Instr.sliceBound, asIntOf, h0, h1, h4, h5, h6] <;> omega

theorem run_slice (h : Rel F E S g a.tmps) {t : TypeId} {x : Operand} {y : Opd} {lo hi : Option Operand} {lo' hi' : Option Opd} {s : Bool} {sz dst : Nat} {r : Res} (ho : o.op = .slice t x lo hi none) (hc : cOpd x = some y) (hlo : lo.map cOpd = lo'.map some) (hhi : hi.map cOpd = hi'.map some)
    (ht : if s then P.underlying t = some .string else ∃ e i, P.underlying t = some (.slice e) ∧ P.info? e = some i ∧ i.size = sz)
    (hd : det E S dst (.slice s sz y lo' hi') = some r) (hp : r.p) : Runs P F S g (execOp a.eval o) r.av (r.ws ++ S) := by
  have hv := opd_ok h hc
  simp only [det] at hd
  split at hd
  · rename_i sz' rows he
    split at hd
    · rename_i l hh hel heh
      obtain rfl := Option.some.inj hd
      obtain ⟨rfl, h0, h1, h2⟩ := hp
      obtain ⟨e, i, ht, hi', hsz⟩ : ∃ e i, P.underlying t = some (.slice e) ∧ P.info? e = some i ∧ i.size = sz := by simpa using ht
      have hlo' : (lo.map a.eval = none ∧ l = 0) ∨ ∃ k, lo.map a.eval = some (.int k l) := cut_b h hlo hel
      have hhi' : (hi.map a.eval = none ∧ hh = rows.length) ∨ ∃ k, hi.map a.eval = some (.int k hh) := cut_b h hhi heh
      rw [he] at hv
      simp only [RA, R] at hv
      obtain ⟨q0, _, A, c, q2, q3, q4⟩ := hv
      have hb := run_bounds (P := P) (w := g.m.w) (isS := true) (cap := c) hlo' hhi' h0 h1 h2 q3
      have hl' : (l.toNat : Int) = l := Int.toNat_of_nonneg h0
      have hh' : (hh.toNat : Int) = hh := Int.toNat_of_nonneg (by omega)
      refine Runs.pure h.rc (v := .slice (if c = l.toNat then A else A.map (·.add (l.toNat * sz))) (hh.toNat - l.toNat) (c - l.toNat)) ?_ ?_
      · simp [execOp, ho, Instr.sliceAt, Instr.slice, run_underlying ht, q2, hb, sizeOf, typeInfo, hi', hsz]
      · simp only [RA, R]
        have hlen : ((rows.take hh.toNat).drop l.toNat).length = hh.toNat - l.toNat := by simp only [List.length_drop, List.length_take]; omega
        refine ⟨fun r hr => q0 r (List.mem_of_mem_take (List.mem_of_mem_drop hr)), trivial, (if c = l.toNat then A else A.map (·.add (l.toNat * sz))), c - l.toNat, by rw [hlen], by rw [hlen]; omega, ?_⟩
        by_cases hne : (rows.take hh.toNat).drop l.toNat = []
        · exact .inl hne
        · right
          have hlt : l.toNat < hh.toNat := by
            rcases Nat.lt_or_ge l.toNat hh.toNat with h' | h'
            · exact h'
            · exact absurd (List.drop_of_length_le (by simp; omega)) hne
          rcases q4 with rfl | ⟨b, off, arr, t', fz, us, rfl, q5, q6, q7, q8, q9⟩
          · simp at hne
          · have hcl : ¬ c = l.toNat := by omega
            refine ⟨b, off + l.toNat * sz, arr, t', fz, (us.take (hh.toNat * sz)).drop (l.toNat * sz), ?_, q5, q6, (q7.take_ _).drop_ _, ?_, RLL_nil_drop _ _ _ (fun r hr => q0 r (List.mem_of_mem_take hr)) (RLL_nil_take _ _ _ q0 q9)⟩
            · simp [hcl, addr_add]
            · simp only [List.length_drop, List.length_take, q8]
              rw [Nat.min_eq_left (Nat.mul_le_mul_right _ (by omega)), Nat.min_eq_left (by omega), ← Nat.sub_mul]
    · cases hd
  · rename_i s he
    have ht : P.underlying t = some .string := by simpa using ht
    split at hd
    · rename_i l hh hel heh
      obtain rfl := Option.some.inj hd
      obtain ⟨h0, h1, h2⟩ := hp
      have hlo' : (lo.map a.eval = none ∧ l = 0) ∨ ∃ k, lo.map a.eval = some (.int k l) := cut_b h hlo hel
      have hhi' : (hi.map a.eval = none ∧ hh = s.size) ∨ ∃ k, hi.map a.eval = some (.int k hh) := cut_b h hhi heh
      have hb := run_bounds (P := P) (w := g.m.w) (isS := false) (len := s.size) (cap := s.size) hlo' hhi' h0 h1 h2 (Nat.le_refl _)
      refine Runs.pure h.rc (v := .string (s.extract l.toNat hh.toNat)) ?_ (by simp only [RA, R, vs]; exact ⟨trivial, trivial⟩)
      simp [execOp, ho, Instr.sliceAt, Instr.slice, run_underlying ht, val_of h hc he, hb]
    · cases hd
  · cases hd

/-! ### append -/
theorem app_zero {t ty e : TypeId} {i : TypeInfo} (ht : P.underlying t = some (.slice e)) (hi : P.info? e = some i) {w : World} {B A : Option Addr} {n c c' : Nat} (hn : n ≤ c) :
    (Builtin.append_ #[t, t] ty #[.slice B n c, .slice A 0 c']).run P w = .ok (.slice B n c) w := by
  cases A <;> cases B <;> simp [Builtin.append_, run_underlying ht, sizeOf, typeInfo, hi, Builtin.lenOf, Builtin.firstCells, loadCells, loadCellsFrom, storeCells, hn]

theorem app_room {t ty e : TypeId} {i : TypeInfo} (ht : P.underlying t = some (.slice e)) (hi : P.info? e = some i) {w : World} {b t' sLen sCap : Nat} {cur : Array Value} (hg : w.heap[b]? = some (.cells cur t' (0, 0)))
    {ad : Addr} {m c : Nat} {news : List Value} (hl : news.length = m * i.size) (hnews : ∀ j u, news[j]? = some u → w.cell? (ad.add j) = some u) (h1 : ∀ u ∈ news, u.oneCell' = true)
    (hroom : sLen + m ≤ sCap) (hfit : sLen * i.size + news.length ≤ cur.size) :
    (Builtin.append_ #[t, t] ty #[.slice (some ⟨b, 0, none⟩) sLen sCap, .slice (some ad) m c]).run P w =
      .ok (.slice (some ⟨b, 0, none⟩) (sLen + m) sCap) (w.setRow b (cur.toList.take (sLen * i.size) ++ news ++ cur.toList.drop (sLen * i.size + news.length)).toArray) := by
  have hf := run_firstCells_some (P := P) w i.size m ad m c news hl hnews
  have hst := run_storeCells_at (P := P) b (sLen * i.size) t' news 0 cur w hg (by simpa using hfit) h1
  simp only [Nat.add_zero] at hst
  simp [Builtin.append_, run_underlying ht, sizeOf, typeInfo, hi, Builtin.lenOf, hroom, hf, Addr.add_lit, hst]

theorem plains_RL {m : Mem} : ∀ {ds : List D} {bs : List Nat} {us : List Value}, plains ds = true → RL m ds bs us → RL m ds [] us
  | [], bs, us, _, h => by simp only [RL] at h ⊢; exact ⟨trivial, h.2⟩
  | d :: ds, bs, us, hp, h => by
    simp only [plains, Bool.and_eq_true] at hp
    simp only [RL] at h ⊢
    obtain ⟨u, us', b1, b2, h1, _, h3, h4⟩ := h
    refine ⟨u, us', [], [], h1, rfl, ?_, plains_RL hp.2 h4⟩
    cases d with
    | val x => simp only [R] at h3 ⊢; exact ⟨trivial, h3.2⟩
    | sl own sz rows => cases own with
      | true => simp [plainD] at hp
      | false => simp only [R] at h3 ⊢; exact ⟨h3.1, trivial, h3.2.2⟩
    | rp cells => simp only [R] at h3 ⊢; exact ⟨trivial, h3.2⟩
    | _ => simp [plainD] at hp
theorem plainLL_RLL {m : Mem} : ∀ {rs : List (List D)} {bs : List Nat} {us : List Value}, plainLL rs → RLL m rs bs us → RLL m rs [] us
  | [], bs, us, _, h => by simp only [RLL] at h ⊢; exact ⟨trivial, h.2⟩
  | r :: rs, bs, us, hp, h => by
    simp only [RLL] at h ⊢
    obtain ⟨u1, u2, b1, b2, h1, _, h3, h4⟩ := h
    exact ⟨u1, u2, [], [], h1, rfl, plains_RL hp.1 h3, plainLL_RLL hp.2 h4⟩

/-- What is appended, in memory. -/
theorem appRows_ok (h : Rel F E S g a.tmps) {x : Operand} {y : Opd} (hc : cOpd x = some y) {p : Prop} {rd : List Nat} {add : List (List D)} (ha : appRows S (ev E y) = some (p, rd, add)) (hp : p) (hpl : plainLL add) {sz : Nat} (hsz : ∀ r ∈ add, r.length = sz) :
    ∃ A c us, a.eval x = .slice A add.length c ∧ us.length = add.length * sz ∧ RLL g.m add [] us ∧ (∀ u ∈ us, cellV u = true) ∧ (add = [] ∨ ∃ b off, A = some ⟨b, off, none⟩ ∧ ∀ j u, us[j]? = some u → g.m.w.cell? (((⟨b, off, none⟩ : Addr)).add j) = some u) := by
  have hv := opd_ok h hc
  have ofR : ∀ own sz' bs v, R g.m (.sl own sz' add) bs v → ∃ A c us, v = .slice A add.length c ∧ us.length = add.length * sz ∧ RLL g.m add [] us ∧ (∀ u ∈ us, cellV u = true) ∧ (add = [] ∨ ∃ b off, A = some ⟨b, off, none⟩ ∧ ∀ j u, us[j]? = some u → g.m.w.cell? (((⟨b, off, none⟩ : Addr)).add j) = some u) := by
    intro own sz' bs v hr
    by_cases hadd : add = []
    · subst hadd
      obtain ⟨A, c, rfl⟩ := R_sl_cell hr
      exact ⟨A, c, [], rfl, by simp, by simp [RLL], by simp, .inl rfl⟩
    · have hsz' : sz' = sz := by
        obtain ⟨r, hr'⟩ := List.exists_mem_of_ne_nil add hadd
        have h1 := hsz r hr'
        cases own <;> simp only [R] at hr <;> rw [← h1, hr.1 r hr']
      subst hsz'
      cases own with
      | true =>
        simp only [R] at hr
        obtain ⟨_, hr⟩ := hr
        rcases hr with ⟨he, _⟩ | ⟨b, c, arr, t, us, bs', _, h2, h3, h4, h5, h6, h7, h8, h9⟩
        · exact absurd he hadd
        · exact ⟨_, c, us, h2, h8, plainLL_RLL hpl h9, fun u hu => by obtain ⟨j, hj, rfl⟩ := List.mem_iff_getElem.1 hu; exact (h7 j _ (List.getElem?_eq_getElem hj)).2, .inr ⟨b, 0, rfl, fun j u hj => by rw [addr_add, cell_at h5]; exact (h7 j u hj).1⟩⟩
      | false =>
        simp only [R] at hr
        obtain ⟨_, _, A, c, h2, h3, hr⟩ := hr
        rcases hr with he | ⟨b, off, arr, t, fz, us, rfl, h5, h6, h7, h8, h9⟩
        · exact absurd he hadd
        · exact ⟨_, c, us, h2, h8, h9, fun u hu => by obtain ⟨j, hj, rfl⟩ := List.mem_iff_getElem.1 hu; exact (h7 j _ (List.getElem?_eq_getElem hj)).2, .inr ⟨b, off, rfl, fun j u hj => by rw [addr_add, cell_at h6]; exact (h7 j u hj).1⟩⟩
  unfold appRows at ha
  split at ha
  · rename_i sz' rows he
    simp only [Option.some.injEq, Prod.mk.injEq] at ha
    obtain ⟨rfl, rfl, rfl⟩ := ha
    rw [he] at hv
    simp only [RA] at hv
    exact ofR _ _ _ _ hv
  · rename_i he
    simp only [Option.some.injEq, Prod.mk.injEq] at ha
    obtain ⟨rfl, rfl, rfl⟩ := ha
    exact ⟨none, 0, [], val_of h hc he, by simp, by simp [RLL], by simp, .inl rfl⟩
  · rename_i id st n he
    split at ha
    · rename_i st' own sz' rows hs
      simp only [Option.some.injEq, Prod.mk.injEq] at ha
      obtain ⟨rfl, rfl, rfl⟩ := ha
      obtain ⟨rfl, rfl⟩ := hp
      rw [so_val h hc he hs rfl]
      exact ofR _ _ _ _ (h.rc.obj id _ hs).2
    · cases ha
  · cases ha

theorem TrS_drop {S S' : Store} {g g' : G} (h : TrS S g S' g') : MemLe g.m g'.m := h.1

theorem run_app (h : Rel F E S g a.tmps) {t e : TypeId} {i : TypeInfo} {z : Value} {x x' : Operand} {y y' : Opd} {dst : Nat} {r : Res} (ho : o.op = .call { callee := .builtin .append, args := #[x, x'], argTypes := #[t, t] }) (hc : cOpd x = some y) (hc' : cOpd x' = some y')
    (ht : P.underlying t = some (.slice e)) (hi : P.info? e = some i) (hz : i.zero = some z) (hzs : z.cells.size = i.size) (hd : det E S dst (.app i.size i.bytes y y') = some r) (hp : r.p) : Runs P F S g (execOp a.eval o) r.av (r.ws ++ S) := by
  have hexec : ∀ v v', a.eval x = v → a.eval x' = v' → execOp a.eval o = (do pure (.value (← Builtin.append_ #[t, t] o.type #[v, v'])) : Sem Next) := by
    rintro v v' rfl rfl
    simp [execOp, ho, resolve, invoke, builtin]
  simp only [det] at hd
  split at hd
  · cases hd
  · rename_i p rd add hadd
    split at hd
    · rename_i he
      obtain rfl := Option.some.inj hd
      obtain ⟨hp0, hpl, hsz, hid, hlim⟩ := hp
      obtain ⟨A, c, us, h1, h2, h3, h4, h5⟩ := appRows_ok h hc' hadd hp0 hpl hsz
      have hx := hexec _ _ (val_of h hc he) h1
      by_cases hne : add = []
      · subst hne
        have hrun : (execOp a.eval o).run P g.m.w = .ok (.value nilS) g.m.w := by
          rw [hx]
          have := app_zero (P := P) (ty := o.type) ht hi (w := g.m.w) (B := none) (A := A) (n := 0) (c := 0) (c' := c) (Nat.le_refl _)
          simp only [List.length_nil, Sem.run_bind, this, Result.andThen_ok, Sem.run_pure]
          rfl
        have key := h.rc.fresh hid (m' := g.m) (v := nilS) (bs := []) (o := .slc 0 (.sl true i.size [])) (Nat.le_refl _) (fun b hb => ⟨rfl, rfl⟩) h.rc.wf rfl rfl rfl
          (fun htr => ⟨⟨true, i.size, [], rfl⟩, by simp only [R]; exact ⟨by simp, .inl ⟨trivial, by simp [G.upd], by simp [G.upd]⟩⟩⟩) (by simp) (by simp)
        refine ⟨nilS, g.upd dst nilS [] g.m, .inl hrun, key.1, ?_, key.2⟩
        simp only [RA, List.cons_append, List.nil_append, sget_cons_eq]
        exact ⟨0, _, rfl, Nat.le_refl _, fun _ => ⟨Nat.le_refl _, fun _ => by simp [G.upd]⟩⟩
      · obtain ⟨b, off, rfl, h6⟩ := h5.resolve_left hne
        have hlen : 0 < add.length := List.length_pos_iff.2 hne
        rw [Nat.mul_add, Nat.mul_one] at hlim
        have hr := run_append_nil (P := P) g.m.w t o.type e i z ht hi hz ⟨b, off, none⟩ add.length c us h2 h6 hlen (by omega) (by omega)
        have hcap := grownCap_ge g.m.w add.length 0 e
        let arr : Array Value := us.toArray ++ Builtin.zeroCells z.cells (grownCap g.m.w add.length 0 e - add.length)
        have harr : arr.size = grownCap g.m.w add.length 0 e * i.size := by
          simp only [arr, Array.size_append, List.size_toArray, size_zeroCells, hzs, h2, ← Nat.add_mul]
          congr 1; omega
        have key := h.rc.fresh hid (m' := ⟨g.m.w.drew.alloc (.cells arr e), g.m.im⟩) (v := .slice (some ⟨g.m.w.heap.size, 0, none⟩) add.length (grownCap g.m.w add.length 0 e)) (bs := [g.m.w.heap.size]) (o := .slc 0 (.sl true i.size add))
          (by simp) (fun b hb => ⟨rfl, heap_alloc_old (w := g.m.w.drew) hb⟩) (fun b hb => h.rc.wf b (by simp at hb; omega)) rfl rfl rfl
          (fun htr => ⟨⟨true, i.size, add, rfl⟩, by
            simp only [R, G.upd, if_true]
            refine ⟨hsz, .inr ⟨g.m.w.heap.size, _, arr, e, us, [], rfl, rfl, hcap, h.rc.wf _ (Nat.le_refl _), heap_alloc_new (w := g.m.w.drew), harr, ?_, h2, RLL_mono htr.1 _ _ _ (KeepB.nil _ _) h3⟩⟩
            intro j u hj
            have hlt := (List.getElem?_eq_some_iff.1 hj).1
            refine ⟨?_, h4 u (List.mem_of_getElem? hj)⟩
            rw [Nat.zero_add, Array.getElem?_append_left (by simpa using hlt)]
            simpa using hj⟩) (by simp) (by simp)
        refine ⟨.slice (some ⟨g.m.w.heap.size, 0, none⟩) add.length (grownCap g.m.w add.length 0 e), _, .inl ?_, key.1, ?_, key.2⟩
        · rw [hx]; simp only [Sem.run_bind, hr, Result.andThen_ok, Sem.run_pure]; rfl
        · simp only [RA, List.cons_append, List.nil_append, sget_cons_eq]
          exact ⟨0, _, rfl, Nat.le_refl _, fun _ => ⟨Nat.le_refl _, fun _ => by simp [G.upd]⟩⟩
    · rename_i id st n he
      split at hd
      · rename_i st' sz' rows hs
        obtain rfl := Option.some.inj hd
        obtain ⟨hp0, hpl, hsz, rfl, rfl, rfl, hlim⟩ := hp
        obtain ⟨A, c, us, h1, h2, h3, h4, h5⟩ := appRows_ok h hc' hadd hp0 hpl hsz
        have hx := hexec _ _ (so_val h hc he hs rfl) h1
        obtain ⟨_, hro⟩ := h.rc.obj id _ hs
        have hro' := hro
        have hidn : sget S id ≠ none := by rw [hs]; simp
        have hnd := h.rc.nodup id hidn
        have hrg := h.rc.range id hidn
        rw [Nat.mul_add, Nat.mul_one] at hlim
        -- the object turned, at a place and a memory
        have fin : ∀ (g' : G), (execOp a.eval o).run P g.m.w = .ok (.value (g'.loc id)) g'.m.w → (∀ j, j ≠ id → g'.loc j = g.loc j ∧ g'.bl j = g.bl j) → MemLe g.m g'.m → g'.m.im = g.m.im →
            (∀ b, b < g.m.w.heap.size → b ∉ g.bl id → g'.m.w.heap[b]? = g.m.w.heap[b]?) → (∀ b ∈ g'.bl id, b ∈ g.bl id ∨ (g.m.w.heap.size ≤ b ∧ b < g'.m.w.heap.size)) → (g'.bl id).Nodup →
            (add = [] → g'.loc id = g.loc id) → g'.m.w.os = g.m.w.os → g'.m.w.tape = g.m.w.tape → g'.m.w.output = g.m.w.output → g.m.w.heap.size ≤ g'.m.w.heap.size →
            (MemLe g.m g'.m → R g'.m (.sl true i.size (rows ++ add)) (g'.bl id) (g'.loc id)) → Runs P F S g (execOp a.eval o) (.so id st (rows.length + add.length)) ([(id, .slc st (.sl true i.size (rows ++ add)))] ++ S) := by
          intro g' hrun hoth hle him hheap hbl hnd' hnil e1 e2 e3 hsize hR
          have htr : TrS S g ((id, .slc st (.sl true i.size (rows ++ add))) :: S) g' := ⟨hle, fun j oj hj => by
            by_cases hji : j = id
            · subst hji
              rw [hs] at hj
              obtain rfl := Option.some.inj hj
              refine ⟨st, _, sget_cons_eq, Nat.le_refl _, fun _ => ⟨by simp [D.len], rfl, fun hl => ?_⟩⟩
              simp [D.len] at hl
              exact hnil hl
            · exact TrO.same (by rw [sget_cons_ne hji]; exact hj) (hoth j hji).1⟩
          refine ⟨g'.loc id, g', .inl hrun, ?_, ?_, htr⟩
          · refine h.rc.update (· = id) htr ⟨fun b hb => by rw [him]; exact h.rc.wf b (by omega), hsize, fun b hb hB => ⟨hheap b (Nat.lt_of_lt_of_le hb h.rc.size) (fun hbid => ?_), by rw [him]⟩, e1, e2, e3⟩ (fun j hj => ⟨sget_cons_ne hj, (hoth j hj).1, (hoth j hj).2⟩) ?_ ?_ ?_
            · rcases (hrg b hbid).2 with h' | h'
              · omega
              · exact hB h'
            · intro j hj hn' b hb
              exact ⟨by rw [him], hheap b (h.rc.range j hn' b hb).1 (fun hbid => h.rc.disj j id hj hn' hidn b hb hbid)⟩
            · rintro j oj rfl hj
              rw [List.cons_append, List.nil_append, sget_cons_eq] at hj
              obtain rfl := Option.some.inj hj
              refine ⟨⟨⟨true, i.size, _, rfl⟩, hR hle⟩, hnd', fun b hb => ?_⟩
              rcases hbl b hb with h' | h'
              · exact ⟨Nat.lt_of_lt_of_le (hrg b h').1 hsize, (hrg b h').2⟩
              · exact ⟨h'.2, .inl (Nat.le_trans h.rc.size h'.1)⟩
            · rintro i' j rfl hij hi' hj b hb hb'
              rw [List.cons_append, List.nil_append, sget_cons_ne (Ne.symm hij)] at hj
              rw [(hoth j (Ne.symm hij)).2] at hb'
              rcases hbl b hb with h' | h'
              · exact h.rc.disj _ j hij hidn hj b h' hb'
              · have := (h.rc.range j hj b hb').1
                omega
          · simp only [RA, List.cons_append, List.nil_append, sget_cons_eq]
            exact ⟨st, _, rfl, Nat.le_refl _, fun _ => ⟨by simp [D.len], fun _ => by first | rfl | trivial⟩⟩
        obtain ⟨B, cc, hloc⟩ := R_sl_cell hro
        by_cases hne : add = []
        · subst hne
          refine fin g ?_ (fun j _ => ⟨rfl, rfl⟩) (MemLe.refl _) rfl (fun b _ _ => rfl) (fun b hb => .inl hb) hnd (fun _ => rfl) rfl rfl rfl (Nat.le_refl _) (fun _ => by simpa using hro)
          have hcc : rows.length ≤ cc := by
            simp only [R] at hro
            rcases hro.2 with ⟨rfl, _, hn⟩ | ⟨b, c', arr, t, us, bs', _, hq, hq2, _⟩
            · simp
            · rw [hloc] at hq; injection hq with _ _ hq; omega
          rw [hx, hloc]
          have := app_zero (P := P) (ty := o.type) ht hi (w := g.m.w) (B := B) (A := A) (n := rows.length) (c := cc) (c' := c) hcc
          simp only [List.length_nil, Sem.run_bind, this, Result.andThen_ok, Sem.run_pure]
          try rfl
        · obtain ⟨b, off, rfl, h6⟩ := h5.resolve_left hne
          have hlen : 0 < add.length := List.length_pos_iff.2 hne
          simp only [R] at hro
          obtain ⟨hszr, hro⟩ := hro
          have hszall : ∀ r ∈ rows ++ add, r.length = i.size := fun r hr => by
            rcases List.mem_append.1 hr with h' | h'
            · exact hszr r h'
            · exact hsz r h'
          rcases hro with ⟨rfl, hbl0, hnil⟩ | ⟨b0, c0, arr0, t0, us0, bs0, hbl0, hq1, hq2, hq3, hq4, hq5, hq6, hq7, hq8⟩
          · have hr := run_append_nil (P := P) g.m.w t o.type e i z ht hi hz ⟨b, off, none⟩ add.length c us h2 h6 hlen (by simp at hlim; omega) (by simp at hlim; omega)
            have hcap := grownCap_ge g.m.w add.length 0 e
            refine fin (g.upd id (.slice (some ⟨g.m.w.heap.size, 0, none⟩) add.length (grownCap g.m.w add.length 0 e)) [g.m.w.heap.size] ⟨g.m.w.drew.alloc (.cells (us.toArray ++ Builtin.zeroCells z.cells (grownCap g.m.w add.length 0 e - add.length)) e), g.m.im⟩)
              ?_ (fun j hj => by simp [G.upd, hj]) ⟨by simp [G.upd], fun b' hb' => ⟨hb', heap_alloc_old (w := g.m.w.drew) (by
                rcases Nat.lt_or_ge b' g.m.w.heap.size with h' | h'
                · exact h'
                · rw [h.rc.wf b' h'] at hb'; cases hb')⟩⟩ rfl (fun b' hb' _ => heap_alloc_old (w := g.m.w.drew) hb') (fun b' hb' => by simp [G.upd] at hb' ⊢; right; omega) (by simp [G.upd]) (fun e => absurd e hne) rfl rfl rfl (by simp [G.upd]) (fun hle => ?_)
            · rw [hx, hnil]
              simp only [nilS, Sem.run_bind, hr, Result.andThen_ok, Sem.run_pure, G.upd, if_true]
              try rfl
            · simp only [R, G.upd, if_true, List.nil_append]
              refine ⟨hsz, .inr ⟨g.m.w.heap.size, _, _, e, us, [], rfl, rfl, hcap, h.rc.wf _ (Nat.le_refl _), heap_alloc_new (w := g.m.w.drew), ?_, ?_, h2, RLL_mono hle _ _ _ (KeepB.nil _ _) h3⟩⟩
              · simp only [Array.size_append, List.size_toArray, size_zeroCells, hzs, h2, ← Nat.add_mul]
                congr 1; omega
              · intro j u hj
                have hlt := (List.getElem?_eq_some_iff.1 hj).1
                refine ⟨?_, h4 u (List.mem_of_getElem? hj)⟩
                rw [Nat.zero_add, Array.getElem?_append_left (by simpa using hlt)]
                simpa using hj
          · have hb0 := hrg b0 (by rw [hbl0]; simp)
            have hbs0 : b0 ∉ bs0 := by rw [hbl0] at hnd; exact (List.nodup_cons.1 hnd).1
            have hcur : us0 = arr0.toList.take (rows.length * i.size) := by
              apply List.ext_getElem?
              intro j
              rw [List.getElem?_take]
              by_cases hj : j < rows.length * i.size
              · rw [if_pos hj]
                have := (hq6 j us0[j] (List.getElem?_eq_getElem (by omega))).1
                rw [Nat.zero_add] at this
                rw [List.getElem?_eq_getElem (by omega), ← this]; simp
              · rw [if_neg hj, List.getElem?_eq_none (by omega)]
            by_cases hroom : rows.length + add.length ≤ c0
            · have hfit : rows.length * i.size + us.length ≤ arr0.size := by rw [h2, hq5, ← Nat.add_mul]; exact Nat.mul_le_mul_right _ hroom
              have hr := app_room (P := P) (ty := o.type) ht hi (w := g.m.w) hq4 (c := c) h2 h6 (fun u hu => by rw [← cellV_eq]; exact h4 u hu) hroom hfit
              have hother : ∀ k, k ≠ b0 → (g.m.w.setRow b0 (arr0.toList.take (rows.length * i.size) ++ us ++ arr0.toList.drop (rows.length * i.size + us.length)).toArray).heap[k]? = g.m.w.heap[k]? := fun k hk => setRow_other g.m.w b0 k _ hk
              refine fin (g.upd id (.slice (some ⟨b0, 0, none⟩) (rows.length + add.length) c0) (g.bl id) ⟨g.m.w.setRow b0 (arr0.toList.take (rows.length * i.size) ++ us ++ arr0.toList.drop (rows.length * i.size + us.length)).toArray, g.m.im⟩)
                ?_ (fun j hj => by simp [G.upd, hj]) ⟨by simp [G.upd, setRow_size], fun b' hb' => ⟨hb', hother b' (fun e' => by rw [e', hq3] at hb'; cases hb')⟩⟩ rfl (fun b' hb' hn' => hother b' (fun e' => hn' (by rw [hbl0, e']; simp)))
                (fun b' hb' => by simp [G.upd] at hb'; exact .inl hb') (by simpa [G.upd] using hnd) (fun e => absurd e hne) rfl rfl rfl (by simp [G.upd, setRow_size]) (fun hle => ?_)
              · rw [hx, hq1]; simp only [Sem.run_bind, hr, Result.andThen_ok, Sem.run_pure, G.upd, if_true]; try rfl
              · simp only [R, G.upd, if_true]
                refine ⟨hszall, .inr ⟨b0, c0, _, t0, us0 ++ us, bs0, hbl0, by simp, by simpa using hroom, hq3, setRow_heap g.m.w b0 _ _ t0 _ hq4, ?_, ?_, by simp [hq7, h2, Nat.add_mul], ?_⟩⟩
                · simp only [List.size_toArray, List.length_append, List.length_take, List.length_drop, Array.length_toList]; omega
                · intro j u hj
                  rw [hcur] at hj
                  refine ⟨?_, ?_⟩
                  · rw [Nat.zero_add]
                    have : j < (arr0.toList.take (rows.length * i.size) ++ us).length := (List.getElem?_eq_some_iff.1 hj).1
                    rw [List.getElem?_toArray, List.getElem?_append_left this]
                    exact hj
                  · rcases List.mem_append.1 (List.mem_of_getElem? hj) with h' | h'
                    · rw [← hcur] at h'
                      obtain ⟨j', hj', rfl⟩ := List.mem_iff_getElem.1 h'
                      exact (hq6 j' _ (List.getElem?_eq_getElem hj')).2
                    · exact h4 u h'
                · have := RLL_app rows add bs0 [] us0 us (RLL_mono hle _ _ _ (fun b' hb' => ⟨rfl, hother b' (fun e' => hbs0 (e' ▸ hb'))⟩) hq8) (RLL_mono hle _ _ _ (KeepB.nil _ _) h3)
                  simpa [G.upd] using this
            · have hold : ∀ j u, us0[j]? = some u → g.m.w.cell? (((⟨b0, 0, none⟩ : Addr)).add j) = some u := fun j u hj => by rw [addr_add, cell_at hq4]; exact (hq6 j u hj).1
              have hr := run_append_grow (P := P) g.m.w t o.type e i z ht hi hz ⟨b0, 0, none⟩ rows.length c0 us0 hq7 hold ⟨b, off, none⟩ add.length c us h2 h6 (by omega) (by omega) (growslice_fits (by omega) (by omega))
              have hcap := grownCap_ge g.m.w (rows.length + add.length) c0 e
              refine fin (g.upd id (.slice (some ⟨g.m.w.heap.size, 0, none⟩) (rows.length + add.length) (grownCap g.m.w (rows.length + add.length) c0 e)) (g.m.w.heap.size :: bs0) ⟨g.m.w.drew.alloc (.cells (us0.toArray ++ us.toArray ++ Builtin.zeroCells z.cells (grownCap g.m.w (rows.length + add.length) c0 e - (rows.length + add.length))) e), g.m.im⟩)
                ?_ (fun j hj => by simp [G.upd, hj]) ⟨by simp [G.upd], fun b' hb' => ⟨hb', heap_alloc_old (w := g.m.w.drew) (by
                rcases Nat.lt_or_ge b' g.m.w.heap.size with h' | h'
                · exact h'
                · rw [h.rc.wf b' h'] at hb'; cases hb')⟩⟩ rfl (fun b' hb' _ => heap_alloc_old (w := g.m.w.drew) hb')
                (fun b' hb' => by
                  simp only [G.upd, if_true, List.mem_cons] at hb'
                  rcases hb' with rfl | hb'
                  · right; simp [G.upd]
                  · left; rw [hbl0]; simp [hb']) (by
                  simp only [G.upd, if_true, List.nodup_cons]
                  refine ⟨fun hm => ?_, by rw [hbl0] at hnd; exact (List.nodup_cons.1 hnd).2⟩
                  have := (hrg _ (by rw [hbl0]; exact List.mem_cons_of_mem _ hm)).1
                  omega) (fun e => absurd e hne) rfl rfl rfl (by simp [G.upd]) (fun hle => ?_)
              · rw [hx, hq1]; simp only [Sem.run_bind, hr, Result.andThen_ok, Sem.run_pure, G.upd, if_true]; try rfl
              · simp only [R, G.upd, if_true]
                refine ⟨hszall, .inr ⟨g.m.w.heap.size, grownCap g.m.w (rows.length + add.length) c0 e, _, e, us0 ++ us, bs0, rfl, by simp, by simpa using hcap, h.rc.wf _ (Nat.le_refl _), heap_alloc_new (w := g.m.w.drew), ?_, ?_, by simp [hq7, h2, Nat.add_mul], ?_⟩⟩
                · simp only [Array.size_append, List.size_toArray, size_zeroCells, hzs, h2, hq7, ← Nat.add_mul]
                  congr 1; omega
                · intro j u hj
                  have hlt : j < (us0 ++ us).length := (List.getElem?_eq_some_iff.1 hj).1
                  refine ⟨?_, ?_⟩
                  · rw [Nat.zero_add, Array.getElem?_append_left (by simpa using hlt)]
                    simpa using hj
                  · rcases List.mem_append.1 (List.mem_of_getElem? hj) with h' | h'
                    · obtain ⟨j', hj', rfl⟩ := List.mem_iff_getElem.1 h'
                      exact (hq6 j' _ (List.getElem?_eq_getElem hj')).2
                    · exact h4 u h'
                · have := RLL_app rows add bs0 [] us0 us (RLL_mono hle _ _ _ (fun b' hb' => ⟨rfl, heap_alloc_old (w := g.m.w.drew) (hrg b' (by rw [hbl0]; simp [hb'])).1⟩) hq8) (RLL_mono hle _ _ _ (KeepB.nil _ _) h3)
                  simpa [G.upd] using this
      · cases hd
    · cases hd

end
end Go.Proofs.YtcaemkcglflmnaaDoor.Vm
