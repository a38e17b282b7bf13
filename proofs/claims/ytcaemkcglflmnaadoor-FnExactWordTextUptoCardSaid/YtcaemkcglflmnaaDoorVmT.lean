/-
  The abstract machine, part T: operations, reckoned with a list of facts that were proved beforehand. Conditions: none.
-/
import Derived.Test.YtcaemkcglflmnaaDoorVmS
namespace Go.Proofs.YtcaemkcglflmnaaDoor.Vm
open Go Go.RowKit
variable [Tbl]
set_option linter.unusedSimpArgs false
set_option linter.unusedVariables false
set_option linter.unusedSectionVars false

/-- Facts, in the order in which they are asked for. -/
inductive Or (P : Program) where
  | lit (t : Bool)
  | br {b t : Bool} (h : b = t)
  | row {rows : List (List D)} {n : Int} {row : List D} (h : 0 ≤ n ∧ rows[n.toNat]? = some row)
  | inb {rows : List (List D)} {n : Int} (h : 0 ≤ n ∧ n < (rows.length : Int))
  | erow {rows : List (List D)} {i : Nat} {row : List D} (h : rows[i]? = some row)
  | eset {rows : List (List D)} {i : Nat} {row : List D} {j n : Nat} {ds : List D} {rows' : List (List D)} (h : rows[i]? = some row ∧ plains ((row.drop j).take n) = true ∧ rows.set i (putAt row j ds) = rows')
  | byte {s : ByteArray} {n : Int} {b : UInt8} (h : 0 ≤ n ∧ s.data.toList[n.toNat]? = some b)
  | nz {b : Int} (h : b ≠ 0)
  | cat {a b : ByteArray} (h : a.size + b.size ≤ 9223372036854775807)
  | len {rows : List (List D)} {n : Nat} (h : rows.length = n)
  | sub {rows : List (List D)} {a b : Int} {rows' : List (List D)} (h : 0 ≤ a ∧ a ≤ b ∧ b ≤ (rows.length : Int) ∧ (rows.take b.toNat).drop a.toNat = rows')
  | ssub {s : ByteArray} {a b : Int} (h : 0 ≤ a ∧ a ≤ b ∧ b ≤ (s.size : Int))
  | app {rows add : List (List D)} {sz bytes : Nat} {rows' : List (List D)} (h : plainLL add ∧ (∀ r ∈ add, r.length = sz) ∧ (rows.length + add.length) * (bytes + 1) ≤ 140737488355328 ∧ rows ++ add = rows')
  | mk {n : Int} {bytes : Nat} {z : List D} {rows' : List (List D)} (h : 0 ≤ n ∧ n * (bytes + 1) ≤ 140737488355328 ∧ List.replicate n.toNat z = rows')
  | str {rows : List (List D)} {s : ByteArray} (h : ∃ ns, byteRows rows = some ns ∧ ns.foldl (fun r n => r.push (UInt8.ofNat n.toNat)) ByteArray.empty = s)
  | pub {rows rows' : List (List D)} (h : D.pl.plLL rows = rows')
  | call {id : Nat} {As : List A} {res : D} {outs : List A} (h : Sound P id As res outs)
  | callw {id : Nat} {As As' : List A} {res : D} {outs : List A} (hle : ALes As As') (h : Sound P id As' res outs)
  | gpub (id : Nat) {rows rows' : List (List D)} (h : D.pl.plLL rows = rows')
  | gle (id : Nat) {d d' : D} (h : DLe d d' ∧ (∃ own sz rows, d' = .sl own sz rows) ∧ d'.len = d.len ∧ d'.szOf = d.szOf)
  | gso (t : Nat) {n m : Nat} (h : n = m)
  | gsb (b j : Nat) {n m : Nat} (h : n = m)
  | stop (ρ : List (Nat × Nat)) (t : St)
  | cut (ρ : List (Nat × Nat)) (t : St)
  | pass (n : Nat)
  | fin0
  | finr {d res : D} (hd : DLe d res)
  | fin {d res : D} {o os : List A} (hd : DLe d res) (ho : ALes o os)

section
variable {φ : Type} {P : Program}
abbrev Kt (φ : Type) (P : Program) := AV → Store → List Nat → List (Or P) → Option (Out φ)

def xB (a : AV) (os : List (Or P)) (k : Bool → List (Or P) → Option (Out φ)) : Option (Out φ) := match a with
  | .pu (.val (.bool b)) => (match os with
    | .lit t :: os => eqc (.b b) (.b t) (k t os)
    | .br (b := b') (t := t) _ :: os => eqc (.b b) (.b b') (k t os)
    | _ => none)
  | _ => none
theorem xB_ok {a : AV} {os : List (Or P)} {k : Bool → List (Or P) → Option (Out φ)} {f : φ} (h : Good (xB a os k) f) : ∃ t os', a = .pu (.val (.bool t)) ∧ Good (k t os') f := by
  unfold xB at h
  split at h
  · split at h
    · obtain ⟨h1, h2⟩ := good_eqc h
      obtain rfl := Cmp.b.inj h1
      exact ⟨_, _, rfl, h2⟩
    · rename_i b' t hbt os'
      obtain ⟨h1, h2⟩ := good_eqc h
      obtain rfl := Cmp.b.inj h1
      subst hbt
      exact ⟨_, _, rfl, h2⟩
    · exact (good_none h).elim
  · exact (good_none h).elim

def okX1 (S : Store) (a : AV) (k : Option (Out φ)) : Option (Out φ) := match a with
  | .pu (.val v) => chk (cellV v) k
  | .pu (.sl _ _ _) => k
  | .pu (.rp _) => k
  | .pu (.cl _ _) => k
  | .so id st n => curC S id st n k
  | .ob _ _ => k
  | .cl _ _ => k
  | _ => none
theorem okX1_ok {S : Store} {a : AV} {k : Option (Out φ)} {f : φ} (h : Good (okX1 S a k) f) : okCell S a ∧ Good k f := by
  unfold okX1 at h
  split at h
  · obtain ⟨h1, h2⟩ := good_chk h
    exact ⟨by simpa only [okCell] using h1, h2⟩
  · exact ⟨trivial, h⟩
  · exact ⟨trivial, h⟩
  · exact ⟨trivial, h⟩
  · obtain ⟨h1, h2⟩ := curC_ok h
    refine ⟨?_, h2⟩
    obtain ⟨d, e1, e2⟩ := cur_ok h1
    simp only [okCell, e1]
    exact ⟨trivial, e2⟩
  · exact ⟨trivial, h⟩
  · exact ⟨trivial, h⟩
  · exact (good_none h).elim
def okXs (S : Store) : List AV → Option (Out φ) → Option (Out φ)
  | [], k => k
  | a :: l, k => okX1 S a (okXs S l k)
theorem okXs_ok {S : Store} {f : φ} : ∀ {l : List AV} {k : Option (Out φ)}, Good (okXs S l k) f → okCells S l ∧ Good k f
  | [], k, h => ⟨trivial, h⟩
  | a :: l, k, h => by
    obtain ⟨h1, h2⟩ := okX1_ok h
    obtain ⟨h3, h4⟩ := okXs_ok h2
    exact ⟨⟨h1, h3⟩, h4⟩
def placesX (S : Store) (n : Nat) : List (Nat × Nat × AV) → Option (Out φ) → Option (Out φ)
  | [], k => k
  | (o, m, a) :: r, k => chk ((cellsOf a).length == m && Nat.ble (o + m) n) (okXs S (cellsOf a) (placesX S n r k))
theorem placesX_ok {S : Store} {n : Nat} {f : φ} : ∀ {l : List (Nat × Nat × AV)} {k : Option (Out φ)}, Good (placesX S n l k) f → placesOk S n l ∧ Good k f
  | [], k, h => ⟨trivial, h⟩
  | (o, m, a) :: l, k, h => by
    simp only [placesX] at h
    obtain ⟨h1, h2⟩ := good_chk h
    simp only [Bool.and_eq_true, beq_iff_eq, Nat.ble_eq] at h1
    obtain ⟨h3, h4⟩ := okXs_ok h2
    obtain ⟨h5, h6⟩ := placesX_ok h4
    exact ⟨⟨⟨h1.1, h1.2, h3⟩, h5⟩, h6⟩

def isDiv : BinOp → Bool
  | .quo => true
  | .rem => true
  | _ => false
def xNz (b : Int) (os : List (Or P)) (k : List (Or P) → Option (Out φ)) : Option (Out φ) := match os with
  | .nz (b := b') _ :: os => eqc (.i b) (.i b') (k os)
  | _ => none
theorem xNz_ok {b : Int} {os : List (Or P)} {k : List (Or P) → Option (Out φ)} {f : φ} (h : Good (xNz b os k) f) : b ≠ 0 ∧ ∃ os', Good (k os') f := by
  unfold xNz at h
  split at h
  · rename_i b' hb os'
    obtain ⟨h1, h2⟩ := good_eqc h
    obtain rfl := Cmp.i.inj h1
    exact ⟨hb, os', h2⟩
  · exact (good_none h).elim
def xCat (a b : ByteArray) (os : List (Or P)) (k : List (Or P) → Option (Out φ)) : Option (Out φ) := match os with
  | .cat (a := a') (b := b') _ :: os => eqc (.s a) (.s a') (eqc (.s b) (.s b') (k os))
  | _ => none
theorem xCat_ok {a b : ByteArray} {os : List (Or P)} {k : List (Or P) → Option (Out φ)} {f : φ} (h : Good (xCat a b os k) f) : a.size + b.size ≤ 9223372036854775807 ∧ ∃ os', Good (k os') f := by
  unfold xCat at h
  split at h
  · rename_i a' b' hb os'
    obtain ⟨h1, h2⟩ := good_eqc h
    obtain ⟨h3, h4⟩ := good_eqc h2
    obtain rfl := Cmp.s.inj h1
    obtain rfl := Cmp.s.inj h3
    exact ⟨hb, os', h4⟩
  · exact (good_none h).elim
def isAdd : BinOp → Bool
  | .add => true
  | _ => false

def xBin (E : Env) (op : BinOp) (x y : Opd) (os : List (Or P)) (k : Kt φ P) : Option (Out φ) :=
  match ev E x, ev E y with
  | .pu (.val (.int k1 a)), .pu (.val (.int k2 b)) => eqc (.k k1) (.k k2) (match binI op k1 a b with
    | some (_, r) => (match isDiv op with | true => xNz b os fun os => k r [] [] os | false => k r [] [] os)
    | none => none)
  | .pu (.val (.string a)), .pu (.val (.string b)) => (match binS op a b with
    | some (_, r) => (match isAdd op with | true => xCat a b os fun os => k r [] [] os | false => k r [] [] os)
    | none => none)
  | _, _ => none
theorem binI_p {op : BinOp} {k : IntKind} {a b : Int} {p : Prop} {r : AV} (h : binI op k a b = some (p, r)) (hb : isDiv op = true → b ≠ 0) : p := by
  cases op <;> simp only [binI, Option.some.injEq, Prod.mk.injEq, reduceCtorEq] at h <;> obtain ⟨h, _⟩ := h <;> rw [← h] <;> first | trivial | exact hb rfl
theorem binS_p {op : BinOp} {a b : ByteArray} {p : Prop} {r : AV} (h : binS op a b = some (p, r)) (hb : isAdd op = true → a.size + b.size ≤ 9223372036854775807) : p := by
  cases op <;> simp only [binS, Option.some.injEq, Prod.mk.injEq, reduceCtorEq] at h <;> obtain ⟨h, _⟩ := h <;> rw [← h] <;> first | trivial | exact hb rfl

abbrev Ex1 (P : Program) (E : Env) (S : Store) (dst : Nat) (c : COp) (k : Kt φ P) (f : φ) : Prop := ∃ r, det E S dst c = some r ∧ r.p ∧ ∃ os', Good (k r.av r.ws r.rd os') f

theorem xBin_ok {E : Env} {S : Store} {dst : Nat} {op : BinOp} {x y : Opd} {os : List (Or P)} {k : Kt φ P} {f : φ} (h : Good (xBin E op x y os k) f) : Ex1 P E S dst (.bin op x y) k f := by
  unfold xBin at h
  split at h
  · rename_i k1 a k2 b e1 e2
    replace h := good_eqc h; obtain ⟨h1, h⟩ := h
    obtain rfl := Cmp.k.inj h1
    split at h
    · rename_i p r hb
      refine ⟨⟨k1 = k1 ∧ p, [], r, []⟩, by simp only [det, e1, e2, hb], ?_⟩
      cases hd : isDiv op with
      | true =>
        rw [hd] at h
        obtain ⟨h2, os', h3⟩ := xNz_ok h
        exact ⟨⟨rfl, binI_p hb fun _ => h2⟩, os', h3⟩
      | false =>
        rw [hd] at h
        exact ⟨⟨rfl, binI_p hb fun e => by rw [hd] at e; cases e⟩, os, h⟩
    · exact (good_none h).elim
  · rename_i a b e1 e2
    split at h
    · rename_i p r hb
      refine ⟨⟨p, [], r, []⟩, by simp only [det, e1, e2, hb], ?_⟩
      cases hd : isAdd op with
      | true =>
        rw [hd] at h
        obtain ⟨h2, os', h3⟩ := xCat_ok h
        exact ⟨binS_p hb fun _ => h2, os', h3⟩
      | false =>
        rw [hd] at h
        exact ⟨binS_p hb (fun e => by rw [hd] at e; cases e), os, h⟩
    · exact (good_none h).elim
  · exact (good_none h).elim

def xLoad (E : Env) (S : Store) (n : Nat) (agg : Bool) (a : Opd) (os : List (Or P)) (k : Kt φ P) : Option (Out φ) :=
  match ev E a with
  | .ob id off => (match sget S id with
    | some (.box cells) => (match agg with
      | true => chk (Nat.ble (off + n) cells.length) (k (.ag ((cells.drop off).take n)) [] [id] os)
      | false => (match cells[off]? with | some c => k c [] [id] os | none => none))
    | _ => none)
  | .pu (.rp cells) => (match rowCells n agg cells with | some c => k c [] [] os | none => none)
  | .ep id st m i j => (match sget S id with
    | some (.slc st' (.sl _ _ rows)) => (match os with
      | .erow (rows := rows') (i := i') (row := row) _ :: os => chk (st == st') (eqc (.n m) (.n rows.length) (eqc (.r rows) (.r rows') (eqc (.n i) (.n i') (match rowCells n agg (row.drop j) with | some c => k c [] [id] os | none => none))))
      | _ => none)
    | _ => none)
  | _ => none
theorem xLoad_ok {E : Env} {S : Store} {dst n : Nat} {agg : Bool} {a : Opd} {os : List (Or P)} {k : Kt φ P} {f : φ} (h : Good (xLoad E S n agg a os k) f) : Ex1 P E S dst (.load n agg a) k f := by
  unfold xLoad at h
  split at h
  · rename_i id off he
    split at h
    · rename_i cells hs
      split at h
      · replace h := good_chk h; obtain ⟨h1, h⟩ := h
        exact ⟨_, by simp only [det, he, hs, if_true]; rfl, by simpa using h1, os, h⟩
      · split at h
        · rename_i c hc
          exact ⟨⟨True, [id], c, []⟩, by simp only [det, he, hs, hc, Bool.false_eq_true, if_false], trivial, os, h⟩
        · exact (good_none h).elim
    · exact (good_none h).elim
  · rename_i cells he
    split at h
    · rename_i c hc
      exact ⟨⟨True, [], c, []⟩, by simp only [det, he, hc], trivial, os, h⟩
    · exact (good_none h).elim
  · rename_i id st m i j he
    split at h
    · rename_i st' own sz rows hs
      split at h
      · rename_i rows' i' row hrow os'
        replace h := good_chk h; obtain ⟨h1, h⟩ := h
        replace h := good_eqc h; obtain ⟨h2, h⟩ := h
        replace h := good_eqc h; obtain ⟨h3, h⟩ := h
        replace h := good_eqc h; obtain ⟨h4, h⟩ := h
        obtain rfl := Cmp.r.inj h3
        obtain rfl := Cmp.n.inj h4
        split at h
        · rename_i c hc
          exact ⟨⟨st = st' ∧ m = rows.length, [id], c, []⟩, by simp only [det, he, hs, hrow, hc], ⟨by simpa using h1, by simpa using h2⟩, os', h⟩
        · exact (good_none h).elim
      · exact (good_none h).elim
    · exact (good_none h).elim
  · exact (good_none h).elim

def xStore (E : Env) (S : Store) (n : Nat) (a x : Opd) (os : List (Or P)) (k : Kt φ P) : Option (Out φ) :=
  match ev E a with
  | .ob id off => (match sget S id with
    | some (.box cells) => chk ((cellsOf (ev E x)).length == n && Nat.ble (off + n) cells.length) (okXs S (cellsOf (ev E x)) (k .un [(id, .box (putAt cells off (cellsOf (ev E x))))] (id :: refs (cellsOf (ev E x))) os))
    | _ => none)
  | .ep id st m i j => (match sget S id with
    | some (.slc st' (.sl true sz rows)) => (match asDs (cellsOf (ev E x)), os with
      | some ds, .eset (rows := rows0) (i := i') (j := j') (n := n') (ds := ds') (rows' := rows') _ :: os =>
        chk (st == st' && j == j' && n == n' && ds.length == n && Nat.ble (j + n) sz) (eqc (.n m) (.n rows.length) (eqc (.r rows) (.r rows0) (eqc (.n i) (.n i') (eqc (.w ds) (.w ds') (k .un [(id, .slc st (.sl true sz rows'))] [id] os)))))
      | _, _ => none)
    | _ => none)
  | _ => none
theorem xStore_ok {E : Env} {S : Store} {dst n : Nat} {a x : Opd} {os : List (Or P)} {k : Kt φ P} {f : φ} (h : Good (xStore E S n a x os k) f) : Ex1 P E S dst (.store n a x) k f := by
  unfold xStore at h
  split at h
  · rename_i id off he
    split at h
    · rename_i cells hs
      replace h := good_chk h; obtain ⟨h1, h⟩ := h
      replace h := okXs_ok h; obtain ⟨h2, h⟩ := h
      simp only [Bool.and_eq_true, beq_iff_eq, Nat.ble_eq] at h1
      refine ⟨_, by simp only [det, he, hs]; rfl, ?_, os, h⟩
      exact ⟨h1.1, h1.2, h2⟩
    · exact (good_none h).elim
  · rename_i id st m i j he
    split at h
    · rename_i st' sz rows hs
      split at h
      · rename_i ds rows0 i' row j' n' ds' rows' hset os' hds
        replace h := good_chk h; obtain ⟨h1, h⟩ := h
        replace h := good_eqc h; obtain ⟨h2, h⟩ := h
        replace h := good_eqc h; obtain ⟨h3, h⟩ := h
        replace h := good_eqc h; obtain ⟨h4, h⟩ := h
        replace h := good_eqc h; obtain ⟨h5, h⟩ := h
        simp only [Bool.and_eq_true, beq_iff_eq, Nat.ble_eq] at h1
        obtain ⟨⟨⟨⟨rfl, rfl⟩, rfl⟩, h6⟩, h7⟩ := h1
        obtain rfl := Cmp.r.inj h3
        obtain rfl := Cmp.n.inj h4
        obtain rfl := Cmp.w.inj h5
        obtain ⟨k1, k2, k3⟩ := hset
        refine ⟨⟨st = st ∧ m = rows.length ∧ ds.length = n ∧ j + n ≤ sz ∧ plains ((row.drop j).take n) = true, [id], .un, [(id, .slc st (.sl true sz (rows.set i (putAt row j ds))))]⟩, by simp only [det, he, hs, k1, hds], ⟨rfl, by simpa using h2, h6, h7, k2⟩, os', ?_⟩
        rw [k3]
        exact h
      · exact (good_none h).elim
    · exact (good_none h).elim
  · exact (good_none h).elim

def xLen (rows : List (List D)) (os : List (Or P)) (k : Nat → List (Or P) → Option (Out φ)) : Option (Out φ) := match os with
  | .len (rows := rows') (n := n) _ :: os => eqc (.r rows) (.r rows') (k n os)
  | _ => none
theorem xLen_ok {rows : List (List D)} {os : List (Or P)} {k : Nat → List (Or P) → Option (Out φ)} {f : φ} (h : Good (xLen rows os k) f) : ∃ os', Good (k rows.length os') f := by
  unfold xLen at h
  split at h
  · rename_i rows' n hn os'
    replace h := good_eqc h; obtain ⟨h1, h⟩ := h
    obtain rfl := Cmp.r.inj h1
    subst hn
    exact ⟨os', h⟩
  · exact (good_none h).elim
def xLenOp (E : Env) (S : Store) (s : Bool) (x : Opd) (os : List (Or P)) (k : Kt φ P) : Option (Out φ) :=
  match s, ev E x with
  | false, .pu (.sl _ _ rows) => xLen rows os fun n os => k (vi .i64 n) [] [] os
  | false, .pu (.val (.slice _ n _)) => k (vi .i64 n) [] [] os
  | true, .pu (.val (.string s)) => k (vi .i64 s.size) [] [] os
  | false, .so id st n => (match sget S id with
    | some (.slc st' (.sl _ _ rows)) => chk (st == st') (eqc (.n n) (.n rows.length) (xLen rows os fun n os => k (vi .i64 n) [] [id] os))
    | _ => none)
  | _, _ => none
theorem xLenOp_ok {E : Env} {S : Store} {dst : Nat} {s : Bool} {x : Opd} {os : List (Or P)} {k : Kt φ P} {f : φ} (h : Good (xLenOp E S s x os k) f) : Ex1 P E S dst (.len s x) k f := by
  unfold xLenOp at h
  split at h
  · rename_i own sz rows he
    replace h := xLen_ok h; obtain ⟨os', h⟩ := h
    exact ⟨_, by simp only [det, he]; rfl, trivial, os', h⟩
  · rename_i A n c he
    exact ⟨_, by simp only [det, he]; rfl, trivial, os, h⟩
  · rename_i s he
    exact ⟨_, by simp only [det, he]; rfl, trivial, os, h⟩
  · rename_i id st n he
    split at h
    · rename_i st' own sz rows hs
      replace h := good_chk h; obtain ⟨h1, h⟩ := h
      replace h := good_eqc h; obtain ⟨h2, h⟩ := h
      replace h := xLen_ok h; obtain ⟨os', h⟩ := h
      obtain rfl := Cmp.n.inj h2
      refine ⟨_, by simp only [det, he, hs]; rfl, ?_, os', h⟩
      exact ⟨by simpa using h1, rfl⟩
    · exact (good_none h).elim
  · exact (good_none h).elim

def xFadr (E : Env) (S : Store) (off : Nat) (a : Opd) (os : List (Or P)) (k : Kt φ P) : Option (Out φ) :=
  match ev E a with
  | .ob id o => k (.ob id (o + off)) [] [] os
  | .pu (.rp cells) => k (.pu (.rp (cells.drop off))) [] [] os
  | .ep id st n i j => (match sget S id with
    | some (.slc st' d) => chk (st == st') (eqc (.n n) (.n d.len) (k (.ep id st n i (j + off)) [] [id] os))
    | _ => none)
  | _ => none
theorem xFadr_ok {E : Env} {S : Store} {dst off : Nat} {a : Opd} {os : List (Or P)} {k : Kt φ P} {f : φ} (h : Good (xFadr E S off a os k) f) : Ex1 P E S dst (.fadr off a) k f := by
  unfold xFadr at h
  split at h
  · rename_i he; exact ⟨_, by simp only [det, he]; rfl, trivial, os, h⟩
  · rename_i he; exact ⟨_, by simp only [det, he]; rfl, trivial, os, h⟩
  · rename_i id st n i j he
    split at h
    · rename_i st' d hs
      replace h := good_chk h; obtain ⟨h1, h⟩ := h
      replace h := good_eqc h; obtain ⟨h2, h⟩ := h
      refine ⟨_, by simp only [det, he, hs]; rfl, ?_, os, h⟩
      exact ⟨by simpa using h1, by simpa using h2⟩
    · exact (good_none h).elim
  · exact (good_none h).elim

def xField (E : Env) (off n : Nat) (agg : Bool) (x : Opd) (os : List (Or P)) (k : Kt φ P) : Option (Out φ) :=
  match ev E x with
  | .ag l => (match agg with
    | true => chk (Nat.ble (off + n) l.length) (k (.ag ((l.drop off).take n)) [] [] os)
    | false => (match l[off]? with | some c => k c [] [] os | none => none))
  | _ => none
theorem xField_ok {E : Env} {S : Store} {dst off n : Nat} {agg : Bool} {x : Opd} {os : List (Or P)} {k : Kt φ P} {f : φ} (h : Good (xField E off n agg x os k) f) : Ex1 P E S dst (.field off n agg x) k f := by
  unfold xField at h
  split at h
  · rename_i l he
    split at h
    · replace h := good_chk h; obtain ⟨h1, h⟩ := h
      exact ⟨_, by simp only [det, he, if_true]; rfl, by simpa using h1, os, h⟩
    · split at h
      · rename_i c hc
        exact ⟨⟨True, [], c, []⟩, by simp only [det, he, hc, Bool.false_eq_true, if_false], trivial, os, h⟩
      · exact (good_none h).elim
  · exact (good_none h).elim

def xIadr (E : Env) (S : Store) (sz : Nat) (x i : Opd) (os : List (Or P)) (k : Kt φ P) : Option (Out φ) :=
  match ev E x, ev E i with
  | .pu (.sl false sz' rows), .pu (.val (.int _ n)) => (match os with
    | .row (rows := rows') (n := n') (row := row) _ :: os => chk (sz == sz') (eqc (.r rows) (.r rows') (eqc (.i n) (.i n') (k (.pu (.rp row)) [] [] os)))
    | _ => none)
  | .so id st m, .pu (.val (.int _ n)) => (match sget S id with
    | some (.slc st' (.sl true sz' rows)) => (match os with
      | .inb (rows := rows') (n := n') _ :: os => chk (st == st' && sz == sz') (eqc (.n m) (.n rows.length) (eqc (.r rows) (.r rows') (eqc (.i n) (.i n') (k (.ep id st m n.toNat 0) [] [id] os))))
      | _ => none)
    | some (.slc st' (.sl false sz' rows)) => (match os with
      | .row (rows := rows') (n := n') (row := row) _ :: os => chk (st == st' && sz == sz') (eqc (.n m) (.n rows.length) (eqc (.r rows) (.r rows') (eqc (.i n) (.i n') (k (.pu (.rp row)) [] [id] os))))
      | _ => none)
    | _ => none)
  | _, _ => none
theorem xIadr_ok {E : Env} {S : Store} {dst sz : Nat} {x i : Opd} {os : List (Or P)} {k : Kt φ P} {f : φ} (h : Good (xIadr E S sz x i os k) f) : Ex1 P E S dst (.iadr sz x i) k f := by
  unfold xIadr at h
  split at h
  · rename_i sz' rows kk n he1 he2
    split at h
    · rename_i rows' n' row hrow os'
      replace h := good_chk h; obtain ⟨h1, h⟩ := h
      replace h := good_eqc h; obtain ⟨h2, h⟩ := h
      replace h := good_eqc h; obtain ⟨h3, h⟩ := h
      obtain rfl := Cmp.r.inj h2
      obtain rfl := Cmp.i.inj h3
      exact ⟨⟨sz = sz' ∧ 0 ≤ n, [], .pu (.rp row), []⟩, by simp only [det, he1, he2, hrow.2], ⟨by simpa using h1, hrow.1⟩, os', h⟩
    · exact (good_none h).elim
  · rename_i id st m kk n he1 he2
    split at h
    · rename_i st' sz' rows hs
      split at h
      · rename_i rows' n' hrow os'
        replace h := good_chk h; obtain ⟨h1, h⟩ := h
        replace h := good_eqc h; obtain ⟨h4, h⟩ := h
        replace h := good_eqc h; obtain ⟨h2, h⟩ := h
        replace h := good_eqc h; obtain ⟨h3, h⟩ := h
        simp only [Bool.and_eq_true, beq_iff_eq] at h1
        obtain rfl := Cmp.r.inj h2
        obtain rfl := Cmp.i.inj h3
        obtain rfl := Cmp.n.inj h4
        exact ⟨⟨st = st' ∧ rows.length = rows.length ∧ sz = sz' ∧ 0 ≤ n ∧ n < (rows.length : Int), [id], .ep id st rows.length n.toNat 0, []⟩, by simp only [det, he1, he2, hs], ⟨h1.1, rfl, h1.2, hrow.1, hrow.2⟩, os', h⟩
      · exact (good_none h).elim
    · rename_i st' sz' rows hs
      split at h
      · rename_i rows' n' row hrow os'
        replace h := good_chk h; obtain ⟨h1, h⟩ := h
        replace h := good_eqc h; obtain ⟨h4, h⟩ := h
        replace h := good_eqc h; obtain ⟨h2, h⟩ := h
        replace h := good_eqc h; obtain ⟨h3, h⟩ := h
        simp only [Bool.and_eq_true, beq_iff_eq] at h1
        obtain rfl := Cmp.r.inj h2
        obtain rfl := Cmp.i.inj h3
        obtain rfl := Cmp.n.inj h4
        exact ⟨⟨st = st' ∧ rows.length = rows.length ∧ sz = sz' ∧ 0 ≤ n, [id], .pu (.rp row), []⟩, by simp only [det, he1, he2, hs, hrow.2], ⟨h1.1, rfl, h1.2, hrow.1⟩, os', h⟩
      · exact (good_none h).elim
    · exact (good_none h).elim
  · exact (good_none h).elim

def xIdx (E : Env) (x i : Opd) (os : List (Or P)) (k : Kt φ P) : Option (Out φ) :=
  match ev E x, ev E i with
  | .pu (.val (.string s)), .pu (.val (.int _ n)) => (match os with
    | .byte (s := s') (n := n') (b := b) _ :: os => eqc (.s s) (.s s') (eqc (.i n) (.i n') (k (vi .u8 b.toNat) [] [] os))
    | _ => none)
  | _, _ => none
theorem xIdx_ok {E : Env} {S : Store} {dst : Nat} {x i : Opd} {os : List (Or P)} {k : Kt φ P} {f : φ} (h : Good (xIdx E x i os k) f) : Ex1 P E S dst (.idx x i) k f := by
  unfold xIdx at h
  split at h
  · rename_i s kk n he1 he2
    split at h
    · rename_i s' n' b hb os'
      replace h := good_eqc h; obtain ⟨h2, h⟩ := h
      replace h := good_eqc h; obtain ⟨h3, h⟩ := h
      obtain rfl := Cmp.s.inj h2
      obtain rfl := Cmp.i.inj h3
      exact ⟨⟨0 ≤ n, [], vi .u8 b.toNat, []⟩, by simp only [det, he1, he2, hb.2], hb.1, os', h⟩
    · exact (good_none h).elim
  · exact (good_none h).elim

def xInt (a : Option AV) (d : Int) : Option Int := match a with | none => some d | some (.pu (.val (.int _ n))) => some n | _ => none
def xSlice (E : Env) (s : Bool) (sz : Nat) (x : Opd) (lo hi : Option Opd) (os : List (Or P)) (k : Kt φ P) : Option (Out φ) :=
  match s, ev E x with
  | false, .pu (.sl false sz' rows) => (match xInt (lo.map (ev E)) 0, xInt (hi.map (ev E)) rows.length, os with
    | some a, some b, .sub (rows := rows0) (a := a') (b := b') (rows' := rows') _ :: os => chk (sz == sz') (eqc (.r rows) (.r rows0) (eqc (.i a) (.i a') (eqc (.i b) (.i b') (k (.pu (.sl false sz' rows')) [] [] os))))
    | _, _, _ => none)
  | true, .pu (.val (.string s)) => (match xInt (lo.map (ev E)) 0, xInt (hi.map (ev E)) s.size, os with
    | some a, some b, .ssub (s := s') (a := a') (b := b') _ :: os => eqc (.s s) (.s s') (eqc (.i a) (.i a') (eqc (.i b) (.i b') (k (vs (s.extract a.toNat b.toNat)) [] [] os)))
    | _, _, _ => none)
  | _, _ => none
theorem xSlice_ok {E : Env} {S : Store} {dst sz : Nat} {s : Bool} {x : Opd} {lo hi : Option Opd} {os : List (Or P)} {k : Kt φ P} {f : φ} (h : Good (xSlice E s sz x lo hi os k) f) : Ex1 P E S dst (.slice s sz x lo hi) k f := by
  unfold xSlice at h
  split at h
  · rename_i sz' rows he
    split at h
    · rename_i a b rows0 a' b' rows' hsub os' e1 e2
      replace h := good_chk h; obtain ⟨h1, h⟩ := h
      replace h := good_eqc h; obtain ⟨h2, h⟩ := h
      replace h := good_eqc h; obtain ⟨h3, h⟩ := h
      replace h := good_eqc h; obtain ⟨h4, h⟩ := h
      obtain rfl := Cmp.r.inj h2
      obtain rfl := Cmp.i.inj h3
      obtain rfl := Cmp.i.inj h4
      obtain ⟨k1, k2, k3, rfl⟩ := hsub
      refine ⟨⟨sz = sz' ∧ 0 ≤ a ∧ a ≤ b ∧ b ≤ (rows.length : Int), [], .pu (.sl false sz' ((rows.take b.toNat).drop a.toNat)), []⟩, ?_, ⟨by simpa using h1, k1, k2, k3⟩, os', h⟩
      rw [show det E S dst (.slice false sz x lo hi) = (match xInt (lo.map (ev E)) 0, xInt (hi.map (ev E)) rows.length with
        | some a, some b => some ⟨sz = sz' ∧ 0 ≤ a ∧ a ≤ b ∧ b ≤ (rows.length : Int), [], .pu (.sl false sz' ((rows.take b.toNat).drop a.toNat)), []⟩
        | _, _ => none) from by simp only [det, he]; rfl, e1, e2]
    · exact (good_none h).elim
  · rename_i s he
    split at h
    · rename_i a b s0 a' b' hsub os' e1 e2
      replace h := good_eqc h; obtain ⟨h2, h⟩ := h
      replace h := good_eqc h; obtain ⟨h3, h⟩ := h
      replace h := good_eqc h; obtain ⟨h4, h⟩ := h
      obtain rfl := Cmp.s.inj h2
      obtain rfl := Cmp.i.inj h3
      obtain rfl := Cmp.i.inj h4
      refine ⟨⟨0 ≤ a ∧ a ≤ b ∧ b ≤ (s.size : Int), [], vs (s.extract a.toNat b.toNat), []⟩, ?_, hsub, os', h⟩
      rw [show det E S dst (.slice true sz x lo hi) = (match xInt (lo.map (ev E)) 0, xInt (hi.map (ev E)) s.size with
        | some a, some b => some ⟨0 ≤ a ∧ a ≤ b ∧ b ≤ (s.size : Int), [], vs (s.extract a.toNat b.toNat), []⟩
        | _, _ => none) from by simp only [det, he]; rfl, e1, e2]
    · exact (good_none h).elim
  · exact (good_none h).elim

def xAppRows (S : Store) (a : AV) (k : List Nat → List (List D) → Option (Out φ)) : Option (Out φ) := match a with
  | .pu (.sl false _ rows) => k [] rows
  | .pu (.val (.slice none 0 0)) => k [] []
  | .so id st n => (match sget S id with
    | some (.slc st' (.sl _ _ rows)) => chk (st == st') (eqc (.n n) (.n rows.length) (k [id] rows))
    | _ => none)
  | _ => none
theorem xAppRows_ok {S : Store} {a : AV} {k : List Nat → List (List D) → Option (Out φ)} {f : φ} (h : Good (xAppRows S a k) f) : ∃ p rd add, appRows S a = some (p, rd, add) ∧ p ∧ Good (k rd add) f := by
  unfold xAppRows at h
  split at h
  · exact ⟨_, _, _, rfl, trivial, h⟩
  · exact ⟨_, _, _, rfl, trivial, h⟩
  · rename_i id st n
    split at h
    · rename_i st' own sz rows hs
      replace h := good_chk h; obtain ⟨h1, h⟩ := h
      replace h := good_eqc h; obtain ⟨h2, h⟩ := h
      exact ⟨st = st' ∧ n = rows.length, [id], rows, by simp only [appRows, hs], ⟨by simpa using h1, by simpa using h2⟩, h⟩
    · exact (good_none h).elim
  · exact (good_none h).elim
def xApp (E : Env) (S : Store) (dst sz bytes : Nat) (x y : Opd) (os : List (Or P)) (k : Kt φ P) : Option (Out φ) :=
  xAppRows S (ev E y) fun rd add => (match os with
    | .app (rows := rows0) (add := add') (sz := sz0) (bytes := bytes') (rows' := rows') _ :: os =>
      chk (sz0 == sz && bytes' == bytes) (eqc (.r add) (.r add') (match ev E x with
        | .pu (.val (.slice none 0 0)) => chk (sget S dst).isNone (eqc (.r rows0) (.r []) (k (.so dst 0 rows'.length) [(dst, .slc 0 (.sl true sz rows'))] (dst :: rd) os))
        | .so id st n => (match sget S id with
          | some (.slc st' (.sl true sz' rows)) => chk (st == st' && sz == sz') (eqc (.n n) (.n rows.length) (eqc (.r rows) (.r rows0) (k (.so id st rows'.length) [(id, .slc st (.sl true sz rows'))] (id :: rd) os)))
          | _ => none)
        | _ => none))
    | _ => none)
theorem xApp_ok {E : Env} {S : Store} {dst sz bytes : Nat} {x y : Opd} {os : List (Or P)} {k : Kt φ P} {f : φ} (h : Good (xApp E S dst sz bytes x y os k) f) : Ex1 P E S dst (.app sz bytes x y) k f := by
  unfold xApp at h
  replace h := xAppRows_ok h; obtain ⟨p, rd, add, ha, hp, h⟩ := h
  split at h
  · rename_i rows0 add' sz0 bytes' rows' happ os'
    replace h := good_chk h; obtain ⟨h1, h⟩ := h
    replace h := good_eqc h; obtain ⟨h2, h⟩ := h
    simp only [Bool.and_eq_true, beq_iff_eq] at h1
    obtain ⟨rfl, rfl⟩ := h1
    obtain rfl := Cmp.r.inj h2
    obtain ⟨k1, k2, k3, rfl⟩ := happ
    split at h
    · rename_i he
      replace h := good_chk h; obtain ⟨h3, h⟩ := h
      replace h := good_eqc h; obtain ⟨h4, h⟩ := h
      obtain rfl := Cmp.r.inj h4
      refine ⟨⟨p ∧ plainLL add ∧ (∀ r ∈ add, r.length = sz0) ∧ sget S dst = none ∧ add.length * (bytes' + 1) ≤ 140737488355328, dst :: rd, .so dst 0 add.length, [(dst, .slc 0 (.sl true sz0 add))]⟩, by simp only [det, ha, he], ⟨hp, k1, k2, by simpa using h3, by simpa using k3⟩, os', ?_⟩
      simpa using h
    · rename_i id st n he
      split at h
      · rename_i st' sz' rows hs
        replace h := good_chk h; obtain ⟨h3, h⟩ := h
        replace h := good_eqc h; obtain ⟨h4, h⟩ := h
        replace h := good_eqc h; obtain ⟨h5, h⟩ := h
        simp only [Bool.and_eq_true, beq_iff_eq] at h3
        obtain rfl := Cmp.r.inj h5
        refine ⟨⟨p ∧ plainLL add ∧ (∀ r ∈ add, r.length = sz0) ∧ st = st' ∧ n = rows.length ∧ sz0 = sz' ∧ (rows.length + add.length) * (bytes' + 1) ≤ 140737488355328, id :: rd, .so id st (rows.length + add.length), [(id, .slc st (.sl true sz0 (rows ++ add)))]⟩, by simp only [det, ha, he, hs], ⟨hp, k1, k2, h3.1, by simpa using h4, h3.2, k3⟩, os', ?_⟩
        simpa using h
      · exact (good_none h).elim
    · exact (good_none h).elim
  · exact (good_none h).elim

def xMk (E : Env) (S : Store) (dst sz bytes : Nat) (zero : List Value) (l c : Opd) (os : List (Or P)) (k : Kt φ P) : Option (Out φ) :=
  match ev E l, ev E c, os with
  | .pu (.val (.int _ n)), .pu (.val (.int _ m)), .mk (n := n') (bytes := bytes') (z := z) (rows' := rows') _ :: os =>
    chk (zero.length == sz && bytes' == bytes && (sget S dst).isNone) (eqc (.i n) (.i m) (eqc (.i n) (.i n') (eqc (.w (zero.map .val)) (.w z) (k (.so dst 0 rows'.length) [(dst, .slc 0 (.sl true sz rows'))] [dst] os))))
  | _, _, _ => none
theorem xMk_ok {E : Env} {S : Store} {dst sz bytes : Nat} {zero : List Value} {l c : Opd} {os : List (Or P)} {k : Kt φ P} {f : φ} (h : Good (xMk E S dst sz bytes zero l c os k) f) : Ex1 P E S dst (.mkSl sz bytes zero l c) k f := by
  unfold xMk at h
  split at h
  · rename_i k1 n k2 m n' bytes' z rows' hmk os' he1 he2
    replace h := good_chk h; obtain ⟨h1, h⟩ := h
    replace h := good_eqc h; obtain ⟨h2, h⟩ := h
    replace h := good_eqc h; obtain ⟨h3, h⟩ := h
    replace h := good_eqc h; obtain ⟨h4, h⟩ := h
    simp only [Bool.and_eq_true, beq_iff_eq] at h1
    obtain ⟨⟨h5, rfl⟩, h6⟩ := h1
    obtain rfl := Cmp.i.inj h2
    obtain rfl := Cmp.i.inj h3
    obtain rfl := Cmp.w.inj h4
    obtain ⟨q1, q2, rfl⟩ := hmk
    refine ⟨⟨n = n ∧ 0 ≤ n ∧ zero.length = sz ∧ n * (bytes' + 1) ≤ 140737488355328 ∧ sget S dst = none, [dst], .so dst 0 n.toNat, [(dst, .slc 0 (.sl true sz (List.replicate n.toNat (zero.map .val))))]⟩, by simp only [det, he1, he2], ⟨rfl, q1, h5, q2, by simpa using h6⟩, os', ?_⟩
    simpa using h
  · exact (good_none h).elim

def xStr (E : Env) (S : Store) (x : Opd) (os : List (Or P)) (k : Kt φ P) : Option (Out φ) :=
  match ev E x with
  | .so id st n => (match sget S id with
    | some (.slc st' (.sl _ _ rows)) => (match os with
      | .str (rows := rows') (s := s) _ :: os => chk (st == st') (eqc (.n n) (.n rows.length) (eqc (.r rows) (.r rows') (k (vs s) [] [id] os)))
      | _ => none)
    | _ => none)
  | _ => none
theorem xStr_ok {E : Env} {S : Store} {dst : Nat} {x : Opd} {os : List (Or P)} {k : Kt φ P} {f : φ} (h : Good (xStr E S x os k) f) : Ex1 P E S dst (.str x) k f := by
  unfold xStr at h
  split at h
  · rename_i id st n he
    split at h
    · rename_i st' own sz rows hs
      split at h
      · rename_i rows' s hstr os'
        replace h := good_chk h; obtain ⟨h1, h⟩ := h
        replace h := good_eqc h; obtain ⟨h2, h⟩ := h
        replace h := good_eqc h; obtain ⟨h3, h⟩ := h
        obtain rfl := Cmp.r.inj h3
        obtain ⟨ns, k1, rfl⟩ := hstr
        exact ⟨⟨st = st' ∧ n = rows.length, [id], vs _, []⟩, by simp only [det, he, hs, k1], ⟨by simpa using h1, by simpa using h2⟩, os', h⟩
      · exact (good_none h).elim
    · exact (good_none h).elim
  · exact (good_none h).elim
end

end Go.Proofs.YtcaemkcglflmnaaDoor.Vm
