/-
  The abstract machine, part H: stores into slices; the compiler of operations; every compiled operation that is no call does what it is told to do. Conditions: none.
-/
import Derived.Test.YtcaemkcglflmnaaDoorVmG
namespace Go.Proofs.YtcaemkcglflmnaaDoor.Vm
open Go Go.RowKit
variable [Tbl]
set_option linter.unusedSimpArgs false
set_option linter.unusedVariables false
set_option linter.unusedSectionVars false

theorem putAt_app {α : Type} {l1 l2 : List α} {o : Nat} (as : List α) (h : l1.length = o) (h2 : as.length ≤ l2.length) : putAt (l1 ++ l2) o as = l1 ++ putAt l2 0 as := by
  rw [putAt_set as (l1 ++ l2) o (by simp; omega), putAt_set as l2 0 (by omega)]
  subst h
  simp [List.drop_append, List.take_append]
theorem putAt_left {α : Type} {l1 l2 : List α} (o : Nat) (as : List α) (h : o + as.length ≤ l1.length) : putAt (l1 ++ l2) o as = putAt l1 o as ++ l2 := by
  rw [putAt_set as (l1 ++ l2) o (by simp; omega), putAt_set as l1 o h]
  rw [List.take_append_of_le_length (by omega), List.drop_append_of_le_length (by omega)]
  simp

theorem RL_put {m : Mem} {row : List D} {bs : List Nat} {us : List Value} {j : Nat} {ds : List D} {vs' : List Value} (h : RL m row bs us) (k : RL m ds [] vs') (hj : j + ds.length ≤ row.length) (hp : plains ((row.drop j).take ds.length) = true) : RL m (putAt row j ds) bs (putAt us j vs') := by
  have hl := RL_length _ _ _ h
  have hk := RL_length _ _ _ k
  have e : row = row.take j ++ ((row.drop j).take ds.length ++ row.drop (j + ds.length)) := by
    rw [← List.drop_drop, List.take_append_drop, List.take_append_drop]
  rw [e] at h
  obtain ⟨b1, b2, u1, u2, rfl, rfl, h1, h2⟩ := RL_split _ _ _ _ h
  obtain ⟨c1, c2, w1, w2, rfl, rfl, h3, h4⟩ := RL_split _ _ _ _ h2
  obtain rfl := plains_bs hp h3
  have l1 := RL_length _ _ _ h1
  have l3 := RL_length _ _ _ h3
  simp only [List.length_take, List.length_drop] at l1 l3
  have e1 : putAt row j ds = row.take j ++ (ds ++ row.drop (j + ds.length)) := by rw [putAt_set ds row j hj, List.append_assoc]
  have e2 : putAt (u1 ++ (w1 ++ w2)) j vs' = u1 ++ (vs' ++ w2) := by
    rw [putAt_set vs' _ j (by simp; omega)]
    have t1 : (u1 ++ (w1 ++ w2)).take j = u1 := by rw [List.take_append_of_le_length (by omega), List.take_of_length_le (by omega)]
    have t2 : (u1 ++ (w1 ++ w2)).drop (j + vs'.length) = w2 := by
      have hlen : (u1 ++ w1).length = j + vs'.length := by rw [List.length_append]; omega
      rw [← List.append_assoc, ← hlen, List.drop_left]
    rw [t1, t2, List.append_assoc]
  rw [e1, e2]
  exact RL_app _ _ _ _ _ _ h1 (RL_app _ _ _ _ _ _ k h4)

theorem RLL_put {m : Mem} {sz : Nat} {rows : List (List D)} {bs : List Nat} {us : List Value} {i j : Nat} {row ds : List D} {vs' : List Value} (hsz : ∀ r ∈ rows, r.length = sz) (h : RLL m rows bs us) (hi : rows[i]? = some row) (k : RL m ds [] vs') (hj : j + ds.length ≤ sz)
    (hp : plains ((row.drop j).take ds.length) = true) : RLL m (rows.set i (putAt row j ds)) bs (putAt us (i * sz + j) vs') := by
  obtain ⟨b1, b2, b3, u1, u2, u3, rfl, rfl, k3, k4, k5, k6, k7⟩ := RLL_row rows bs us hsz h i row hi
  have hrow := hsz row (List.mem_of_getElem? hi)
  have hk := RL_length _ _ _ k
  have hlt := (List.getElem?_eq_some_iff.1 hi).1
  have e : rows.set i (putAt row j ds) = rows.take i ++ ([putAt row j ds] ++ rows.drop (i + 1)) := by
    rw [List.set_eq_take_append_cons_drop, if_pos hlt]; simp
  have e2 : putAt (u1 ++ (u2 ++ u3)) (i * sz + j) vs' = u1 ++ (putAt u2 j vs' ++ u3) := by
    rw [putAt_set vs' _ _ (by simp; omega), putAt_set vs' u2 j (by omega)]
    have t1 : (u1 ++ (u2 ++ u3)).take (i * sz + j) = u1 ++ u2.take j := by
      rw [List.take_append, List.take_of_length_le (by omega), List.take_append_of_le_length (by omega)]
      congr 2; omega
    have t2 : (u1 ++ (u2 ++ u3)).drop (i * sz + j + vs'.length) = u2.drop (j + vs'.length) ++ u3 := by
      rw [List.drop_append, List.drop_of_length_le (by omega), List.nil_append, List.drop_append_of_le_length (by omega)]
      congr 2; omega
    rw [t1, t2]; simp
  rw [e, e2]
  refine RLL_app _ _ _ _ _ _ k5 (RLL_app _ _ _ _ _ _ ?_ k7)
  simp only [RLL]
  exact ⟨putAt u2 j vs', [], b2, [], by simp, by simp, RL_put k6 k (by omega) hp, by simp⟩

section
variable {P : Program} {F : Fr} {E : Env} {S : Store} {g : G} {a : Act} {o : Oper}

theorem run_store_ep (h : Rel F E S g a.tmps) {t : TypeId} {i : TypeInfo} {x z : Operand} {y u : Opd} {id st n ix j sz : Nat} {rows : List (List D)} {row ds : List D} (ho : o.op = .store t x z) (hc : cOpd x = some y) (hcz : cOpd z = some u) (hi : P.info? t = some i)
    (he : ev E y = .ep id st n ix j) (hs : sget S id = some (.slc st (.sl true sz rows))) (hn : n = rows.length) (hrow : rows[ix]? = some row) (hds : asDs (cellsOf (ev E u)) = some ds) (hl : ds.length = i.size) (hj : j + i.size ≤ sz) (hp : plains ((row.drop j).take i.size) = true) :
    Runs P F S g (execOp a.eval o) .un ([(id, .slc st (.sl true sz (rows.set ix (putAt row j ds))))] ++ S) := by
  have hv := opd_ok h hc
  rw [he] at hv
  simp only [RA] at hv
  obtain ⟨st', d', h1, h2, h3⟩ := hv
  rw [hs] at h1
  simp only [Option.some.injEq, OB.slc.injEq] at h1
  obtain ⟨rfl, rfl⟩ := h1
  obtain ⟨b, c, h4, h5⟩ := (h3 rfl).2 hn
  obtain ⟨vs', q1, q2, q3⟩ := fillS.cellsOf_ok' h (opd_ok h hcz) hds
  obtain ⟨r1, r2, r3, r4⟩ := asDs_ok hds q2
  have hlv := RL_length _ _ _ r1
  have hidn : sget S id ≠ none := by rw [hs]; simp
  obtain ⟨_, hro⟩ := h.rc.obj id _ hs
  rw [h4] at hro
  have hlt := (List.getElem?_eq_some_iff.1 hrow).1
  simp only [R] at hro
  obtain ⟨hszr, hro⟩ := hro
  rcases hro with ⟨rfl, _⟩ | ⟨b', c', arr, t', us, bs', hbl, k2, k3, k4, k5, k6, k7, k8, k9⟩
  · simp at hlt
  simp only [Value.slice.injEq, Option.some.injEq, Addr.mk.injEq] at k2
  obtain ⟨⟨rfl, _, _⟩, _, rfl⟩ := k2
  have hrl := hszr row (List.mem_of_getElem? hrow)
  have hin : ix * sz + j + vs'.length ≤ us.length := by
    rw [k8, hlv, hl]
    have : (ix + 1) * sz ≤ rows.length * sz := Nat.mul_le_mul_right _ hlt
    rw [Nat.add_mul] at this; omega
  have hus : us.length ≤ arr.size := by rw [k8, k6]; exact Nat.mul_le_mul_right _ k3
  have hst := run_storeCells_at (P := P) b (ix * sz + j) t' vs' 0 arr g.m.w k5 (by omega) (fun v hv => by rw [← cellV_eq]; exact q3 v hv)
  simp only [Nat.add_zero] at hst
  have hrun : (execOp a.eval o).run P g.m.w = .ok .skip (g.m.w.setRow b (putAt arr.toList (ix * sz + j) vs').toArray) := by
    rw [putAt_set vs' arr.toList _ (by simp; omega)]
    simp [execOp, ho, h5, Instr.storeAt, Instr.sureAddr, ptr, storeVar, sizeOf, typeInfo, hi, q1, hlv, hl, D.szOf, hst]
  let g' : G := ⟨g.loc, g.bl, ⟨g.m.w.setRow b (putAt arr.toList (ix * sz + j) vs').toArray, g.m.im⟩⟩
  have hother : ∀ k, k ≠ b → g'.m.w.heap[k]? = g.m.w.heap[k]? := fun k hk => setRow_other g.m.w b k _ hk
  have hbb := h.rc.range id hidn b (by rw [hbl]; simp)
  have hle : MemLe g.m g'.m := ⟨by simp [g', setRow_size], fun k hk => ⟨hk, hother k (fun e => by rw [e, k4] at hk; cases hk)⟩⟩
  have htr : TrS S g ((id, .slc st (.sl true sz (rows.set ix (putAt row j ds)))) :: S) g' := ⟨hle, fun j' oj hj' => by
    by_cases hji : j' = id
    · subst hji
      rw [hs] at hj'
      obtain rfl := Option.some.inj hj'
      exact ⟨st, _, sget_cons_eq, Nat.le_refl _, fun _ => ⟨by simp [D.len], rfl, fun _ => rfl⟩⟩
    · exact TrO.same (by rw [sget_cons_ne hji]; exact hj') rfl⟩
  have hnd := h.rc.nodup id hidn
  have hbs0 : b ∉ bs' := by rw [hbl] at hnd; exact (List.nodup_cons.1 hnd).1
  refine ⟨undef, g', .inr ⟨hrun, rfl⟩, ?_, by simp only [RA], htr⟩
  refine h.rc.update (· = id) htr ⟨fun k hk => h.rc.wf k (by simpa [g', setRow_size] using hk), by simp [g', setRow_size], fun k hk hB => ⟨hother k (fun e => by
      subst e
      rcases hbb.2 with h' | h'
      · omega
      · exact hB h'), rfl⟩, rfl, rfl, rfl⟩ (fun j' hj' => ⟨sget_cons_ne hj', rfl, rfl⟩) ?_ ?_ ?_
  · intro j' hj' hn' k hk
    exact ⟨rfl, hother k (fun e => by subst e; exact h.rc.disj j' id hj' hn' hidn k hk (by rw [hbl]; simp))⟩
  · rintro j' oj rfl hj'
    rw [List.cons_append, List.nil_append, sget_cons_eq] at hj'
    obtain rfl := Option.some.inj hj'
    refine ⟨⟨⟨true, sz, _, rfl⟩, ?_⟩, hnd, fun k hk => ?_⟩
    · show R g'.m _ (g.bl _) (g.loc _)
      rw [h4, hbl]
      simp only [R]
      refine ⟨?_, .inr ⟨b, c, (putAt arr.toList (ix * sz + j) vs').toArray, t', putAt us (ix * sz + j) vs', bs', rfl, by simp [hn], by simpa using k3, k4, setRow_heap g.m.w b arr _ t' _ k5, by simp [putAt_length, k6], ?_, by simp [putAt_length, k8], ?_⟩⟩
      · intro r hr
        rcases List.mem_or_eq_of_mem_set hr with hr | rfl
        · exact hszr r hr
        · rw [putAt_length]; exact hrl
      · have harr : us = arr.toList.take us.length := by
          apply List.ext_getElem?
          intro q
          rw [List.getElem?_take]
          split
          · rename_i hq
            have := (k7 q us[q] (List.getElem?_eq_getElem hq)).1
            rw [Nat.zero_add] at this
            rw [List.getElem?_eq_getElem hq, ← this]; simp
          · rename_i hq; rw [List.getElem?_eq_none (by omega)]
        intro q v hq
        rw [Nat.zero_add]
        refine ⟨?_, ?_⟩
        · have hql : q < us.length := by have := (List.getElem?_eq_some_iff.1 hq).1; rwa [putAt_length] at this
          have e3 : arr.toList = us ++ arr.toList.drop us.length := by
            conv => lhs; rw [← List.take_append_drop us.length arr.toList, ← harr]
          rw [List.getElem?_toArray, e3, putAt_left _ _ (by omega), List.getElem?_append_left (by rw [putAt_length]; exact hql)]
          exact hq
        · have := List.mem_of_getElem? hq
          rw [putAt_set vs' us _ hin] at this
          simp only [List.mem_append] at this
          rcases this with (h' | h') | h'
          · obtain ⟨q', hq', rfl⟩ := List.mem_iff_getElem.1 (List.mem_of_mem_take h')
            exact (k7 q' _ (List.getElem?_eq_getElem hq')).2
          · exact q3 v h'
          · obtain ⟨q', hq', rfl⟩ := List.mem_iff_getElem.1 (List.mem_of_mem_drop h')
            exact (k7 q' _ (List.getElem?_eq_getElem hq')).2
      · refine RLL_mono hle _ _ _ (fun k hk => ⟨rfl, hother k (fun e => hbs0 (e ▸ hk))⟩) (RLL_put hszr k9 hrow r1 (by omega) (by rw [hl]; exact hp))
    · have := h.rc.range _ hidn k hk
      exact ⟨by simpa [g', setRow_size] using this.1, this.2⟩
  · rintro i' j' rfl hij hi' hj' k hk
    rw [List.cons_append, List.nil_append, sget_cons_ne (Ne.symm hij)] at hj'
    exact h.rc.disj _ j' hij hidn hj' k hk

end
end Go.Proofs.YtcaemkcglflmnaaDoor.Vm
