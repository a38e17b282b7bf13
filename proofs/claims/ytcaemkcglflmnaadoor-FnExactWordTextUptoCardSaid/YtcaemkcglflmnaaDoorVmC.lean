/-
  The abstract machine, part C: compact operations and what each makes of an abstract state. Conditions: none.
-/
import Derived.Test.YtcaemkcglflmnaaDoorVmB
namespace Go.Proofs.YtcaemkcglflmnaaDoor.Vm
open Go Go.RowKit
variable [Tbl]
set_option linter.unusedSimpArgs false
set_option linter.unusedVariables false
set_option linter.unusedSectionVars false

inductive Opd where
  | t (n : Nat)
  | c (v : Value)
  | f (id : Nat)
  deriving Inhabited

inductive COp where
  | mv (x : Opd)
  | pick (c a b : Opd)
  | alloc (zero : List Value)
  | box (x : Opd)
  | build (zero : List Value) (parts : List (Nat × Nat × Opd))
  | buildSl (sz len : Nat) (parts : List (Nat × Opd))
  | load (n : Nat) (agg : Bool) (a : Opd)
  | store (n : Nat) (a x : Opd)
  | bin (op : BinOp) (x y : Opd)
  | beq (neg : Bool) (x y : Opd)
  | seq (neg : Bool) (fs : List (Nat × IntKind)) (x y : Opd)
  | un (op : UnOp) (x : Opd)
  | len (s : Bool) (x : Opd)
  | fadr (off : Nat) (a : Opd)
  | field (off n : Nat) (agg : Bool) (x : Opd)
  | iadr (sz : Nat) (x i : Opd)
  | idx (x i : Opd)
  | slice (s : Bool) (sz : Nat) (x : Opd) (lo hi : Option Opd)
  | app (sz bytes : Nat) (x y : Opd)
  | mkSl (sz bytes : Nat) (zero : List Value) (l c : Opd)
  | ext (x : Opd) (i : Nat)
  | nilc (x : Opd)
  | toInt (k : IntKind) (x : Opd)
  | str (x : Opd)
  | mkfn (f : Nat) (caps : List Opd)
  | call (prim : Bool) (f : Opd) (args : List Opd)
  deriving Inhabited

def ev (E : Env) : Opd → AV
  | .t n => eget E n
  | .c v => .pu (.val v)
  | .f id => .cl id []

/-- The cells of a value that is written to memory or into a struct. -/
def cellsOf : AV → List AV
  | .ag l => l
  | .pu (.ag ds) => ds.map .pu
  | a => [a]
/-- Surely the value of one cell. -/
def okCell (S : Store) : AV → Prop
  | .pu (.val v) => cellV v = true
  | .pu (.sl _ _ _) => True
  | .pu (.rp _) => True
  | .pu (.cl _ _) => True
  | .so id st n => match sget S id with | some (.slc st' d) => st = st' ∧ n = d.len | _ => False
  | .ob _ _ => True
  | .cl _ _ => True
  | _ => False
def okCells (S : Store) : List AV → Prop
  | [] => True
  | a :: l => okCell S a ∧ okCells S l
def refs1 : AV → List Nat
  | .so id _ _ => [id]
  | _ => []
def refs : List AV → List Nat
  | [] => []
  | a :: l => refs1 a ++ refs l

/-- Data without owned parts. -/
def plainD : D → Bool
  | .sl own _ _ => !own
  | .val v => cellV v
  | .rp _ => true
  | _ => false
def plains : List D → Bool
  | [] => true
  | d :: l => plainD d && plains l

/-- Data out of a cell. -/
def asD : AV → Option D
  | .pu d => if plainD d then some d else none
  | _ => none
def asDs : List AV → Option (List D)
  | [] => some []
  | a :: l => match asD a, asDs l with | some d, some ds => some (d :: ds) | _, _ => none

def putAt {α : Type} (l : List α) (o : Nat) : List α → List α
  | [] => l
  | a :: as => putAt (l.set o a) (o + 1) as

structure Res where
  p : Prop
  rd : List Nat
  av : AV
  ws : List (Nat × OB)

def vi (k : IntKind) (n : Int) : AV := .pu (.val (.int k n))
def vb (b : Bool) : AV := .pu (.val (.bool b))
def vs (s : ByteArray) : AV := .pu (.val (.string s))

def binI (op : BinOp) (k : IntKind) (a b : Int) : Option (Prop × AV) :=
  match op with
  | .add => some (True, vi k (k.wrap (a + b)))
  | .sub => some (True, vi k (k.wrap (a - b)))
  | .mul => some (True, vi k (k.wrap (a * b)))
  | .quo => some (b ≠ 0, vi k (k.wrap (a.tdiv b)))
  | .rem => some (b ≠ 0, vi k (a.tmod b))
  | .eql => some (True, vb (decide (a = b)))
  | .neq => some (True, vb (!decide (a = b)))
  | .lss => some (True, vb (decide (a < b)))
  | .leq => some (True, vb (decide (a ≤ b)))
  | .gtr => some (True, vb (decide (a > b)))
  | .geq => some (True, vb (decide (a ≥ b)))
  | _ => none
def binS (op : BinOp) (a b : ByteArray) : Option (Prop × AV) :=
  match op with
  | .add => some (a.size + b.size ≤ 9223372036854775807, vs (a ++ b))
  | .eql => some (True, vb (decide (a = b)))
  | .neq => some (True, vb (!decide (a = b)))
  | _ => none

def placeAll (cells : List AV) : List (Nat × Nat × AV) → List AV
  | [] => cells
  | (o, _, a) :: r => placeAll (putAt cells o (cellsOf a)) r
def placesOk (S : Store) (n : Nat) : List (Nat × Nat × AV) → Prop
  | [] => True
  | (o, k, a) :: r => ((cellsOf a).length = k ∧ o + k ≤ n ∧ okCells S (cellsOf a)) ∧ placesOk S n r

def rowsOf (sz : Nat) : List (Nat × AV) → Nat → Option (List (List D))
  | [], _ => some []
  | (i, a) :: r, k => if i = k then (match asDs (cellsOf a), rowsOf sz r (k + 1) with | some ds, some rs => if ds.length = sz then some (ds :: rs) else none | _, _ => none) else none

/-- One row of an element's cells. -/
def rowCells (n : Nat) (agg : Bool) (ds : List D) : Option AV :=
  if agg then (if n ≤ ds.length ∧ plains (ds.take n) = true then some (.ag ((ds.take n).map .pu)) else none)
  else match ds with
    | d :: _ => if plainD d then some (.pu d) else none
    | [] => none

/-- What is appended. -/
def appRows (S : Store) : AV → Option (Prop × List Nat × List (List D))
  | .pu (.sl false _ rows) => some (True, [], rows)
  | .pu (.val (.slice none 0 0)) => some (True, [], [])
  | .so id st n => match sget S id with | some (.slc st' (.sl _ _ rows)) => some (st = st' ∧ n = rows.length, [id], rows) | _ => none
  | _ => none

def plainLL : List (List D) → Prop
  | [] => True
  | r :: rs => plains r = true ∧ plainLL rs

def byteRows : List (List D) → Option (List Int)
  | [] => some []
  | [.val (.int .u8 n)] :: r => (byteRows r).map (n :: ·)
  | _ => none

def det (E : Env) (S : Store) (dst : Nat) : COp → Option Res
  | .mv x => some ⟨True, [], ev E x, []⟩
  | .alloc zero => some ⟨sget S dst = none, [dst], .ob dst 0, [(dst, .box (zero.map fun v => .pu (.val v)))]⟩
  | .box x => some ⟨sget S dst = none ∧ okCells S (cellsOf (ev E x)), dst :: refs (cellsOf (ev E x)), .ob dst 0, [(dst, .box (cellsOf (ev E x)))]⟩
  | .build zero parts =>
    let ps := parts.map fun (o, n, x) => (o, n, ev E x)
    some ⟨placesOk S zero.length ps, refs (ps.flatMap fun (_, _, a) => cellsOf a), .ag (placeAll (zero.map fun v => .pu (.val v)) ps), []⟩
  | .buildSl sz len parts =>
    match rowsOf sz (parts.map fun (i, x) => (i, ev E x)) 0 with
    | some rows => some ⟨sget S dst = none ∧ rows.length = len, [dst], .so dst 0 len, [(dst, .slc 0 (.sl true sz rows))]⟩
    | none => none
  | .load n agg a =>
    match ev E a with
    | .ob id off => match sget S id with
      | some (.box cells) => if agg then some ⟨off + n ≤ cells.length, [id], .ag ((cells.drop off).take n), []⟩
        else match cells[off]? with | some c => some ⟨True, [id], c, []⟩ | none => none
      | _ => none
    | .pu (.rp cells) => match rowCells n agg cells with | some c => some ⟨True, [], c, []⟩ | none => none
    | .ep id st k i j => match sget S id with
      | some (.slc st' (.sl _ _ rows)) => match rows[i]? with
        | some row => match rowCells n agg (row.drop j) with
          | some c => some ⟨st = st' ∧ k = rows.length, [id], c, []⟩
          | none => none
        | none => none
      | _ => none
    | _ => none
  | .store n a x =>
    match ev E a with
    | .ob id off => match sget S id with
      | some (.box cells) => some ⟨(cellsOf (ev E x)).length = n ∧ off + n ≤ cells.length ∧ okCells S (cellsOf (ev E x)), id :: refs (cellsOf (ev E x)), .un, [(id, .box (putAt cells off (cellsOf (ev E x))))]⟩
      | _ => none
    | .ep id st k i j => match sget S id with
      | some (.slc st' (.sl true sz rows)) => match rows[i]?, asDs (cellsOf (ev E x)) with
        | some row, some ds => some ⟨st = st' ∧ k = rows.length ∧ ds.length = n ∧ j + n ≤ sz ∧ plains ((row.drop j).take n) = true, [id], .un, [(id, .slc st (.sl true sz (rows.set i (putAt row j ds))))]⟩
        | _, _ => none
      | _ => none
    | _ => none
  | .bin op x y =>
    match ev E x, ev E y with
    | .pu (.val (.int k a)), .pu (.val (.int k' b)) => match binI op k a b with | some (p, r) => some ⟨k = k' ∧ p, [], r, []⟩ | none => none
    | .pu (.val (.string a)), .pu (.val (.string b)) => match binS op a b with | some (p, r) => some ⟨p, [], r, []⟩ | none => none
    | _, _ => none
  | .beq neg x y =>
    match ev E x, ev E y with
    | .pu (.val (.bool a)), .pu (.val (.bool b)) => some ⟨True, [], vb (if neg then !decide (a = b) else decide (a = b)), []⟩
    | _, _ => none
  | .un op x =>
    match op, ev E x with
    | .not, .pu (.val (.bool b)) => some ⟨True, [], vb (!b), []⟩
    | .neg, .pu (.val (.int k a)) => some ⟨True, [], vi k (k.wrap (0 - a)), []⟩
    | _, _ => none
  | .len s x =>
    match s, ev E x with
    | false, .pu (.sl _ _ rows) => some ⟨True, [], vi .i64 rows.length, []⟩
    | false, .pu (.val (.slice _ n _)) => some ⟨True, [], vi .i64 n, []⟩
    | true, .pu (.val (.string s)) => some ⟨True, [], vi .i64 s.size, []⟩
    | false, .so id st n => match sget S id with
      | some (.slc st' d) => some ⟨st = st' ∧ n = d.len, [id], vi .i64 n, []⟩
      | _ => none
    | _, _ => none
  | .fadr off a =>
    match ev E a with
    | .ob id o => some ⟨True, [], .ob id (o + off), []⟩
    | .pu (.rp cells) => some ⟨True, [], .pu (.rp (cells.drop off)), []⟩
    | .ep id st n i j => match sget S id with
      | some (.slc st' d) => some ⟨st = st' ∧ n = d.len, [id], .ep id st n i (j + off), []⟩
      | _ => none
    | _ => none
  | .field off n agg x =>
    match ev E x with
    | .ag l => if agg then some ⟨off + n ≤ l.length, [], .ag ((l.drop off).take n), []⟩
      else match l[off]? with | some c => some ⟨True, [], c, []⟩ | none => none
    | _ => none
  | .iadr sz x i =>
    match ev E x, ev E i with
    | .pu (.sl false sz' rows), .pu (.val (.int _ n)) => match rows[n.toNat]? with
      | some row => some ⟨sz = sz' ∧ 0 ≤ n, [], .pu (.rp row), []⟩
      | none => none
    | .so id st k, .pu (.val (.int _ n)) => match sget S id with
      | some (.slc st' (.sl true sz' rows)) => some ⟨st = st' ∧ k = rows.length ∧ sz = sz' ∧ 0 ≤ n ∧ n < (k : Int), [id], .ep id st k n.toNat 0, []⟩
      | some (.slc st' (.sl false sz' rows)) => match rows[n.toNat]? with
        | some row => some ⟨st = st' ∧ k = rows.length ∧ sz = sz' ∧ 0 ≤ n, [id], .pu (.rp row), []⟩
        | none => none
      | _ => none
    | _, _ => none
  | .idx x i =>
    match ev E x, ev E i with
    | .pu (.val (.string s)), .pu (.val (.int _ n)) => match s.data.toList[n.toNat]? with
      | some b => some ⟨0 ≤ n, [], vi .u8 b.toNat, []⟩
      | none => none
    | _, _ => none
  | .slice s sz x lo hi =>
    let l := lo.map (ev E); let h := hi.map (ev E)
    match s, ev E x with
    | false, .pu (.sl false sz' rows) =>
      match (match l with | none => some (0 : Int) | some (.pu (.val (.int _ n))) => some n | _ => none), (match h with | none => some (rows.length : Int) | some (.pu (.val (.int _ n))) => some n | _ => none) with
      | some a, some b => some ⟨sz = sz' ∧ 0 ≤ a ∧ a ≤ b ∧ b ≤ (rows.length : Int), [], .pu (.sl false sz' ((rows.take b.toNat).drop a.toNat)), []⟩
      | _, _ => none
    | true, .pu (.val (.string s)) =>
      match (match l with | none => some (0 : Int) | some (.pu (.val (.int _ n))) => some n | _ => none), (match h with | none => some (s.size : Int) | some (.pu (.val (.int _ n))) => some n | _ => none) with
      | some a, some b => some ⟨0 ≤ a ∧ a ≤ b ∧ b ≤ (s.size : Int), [], vs (s.extract a.toNat b.toNat), []⟩
      | _, _ => none
    | _, _ => none
  | .app sz bytes x y =>
    match appRows S (ev E y) with
    | none => none
    | some (p, rd, add) =>
      match ev E x with
      | .pu (.val (.slice none 0 0)) => some ⟨p ∧ plainLL add ∧ (∀ r ∈ add, r.length = sz) ∧ sget S dst = none ∧ add.length * (bytes + 1) ≤ 140737488355328, dst :: rd, .so dst 0 add.length, [(dst, .slc 0 (.sl true sz add))]⟩
      | .so id st n => match sget S id with
        | some (.slc st' (.sl true sz' rows)) => some ⟨p ∧ plainLL add ∧ (∀ r ∈ add, r.length = sz) ∧ st = st' ∧ n = rows.length ∧ sz = sz' ∧ (rows.length + add.length) * (bytes + 1) ≤ 140737488355328, id :: rd, .so id st (rows.length + add.length), [(id, .slc st (.sl true sz (rows ++ add)))]⟩
        | _ => none
      | _ => none
  | .mkSl sz bytes zero l c =>
    match ev E l, ev E c with
    | .pu (.val (.int _ n)), .pu (.val (.int _ k)) => some ⟨n = k ∧ 0 ≤ n ∧ zero.length = sz ∧ n * (bytes + 1) ≤ 140737488355328 ∧ sget S dst = none, [dst], .so dst 0 n.toNat, [(dst, .slc 0 (.sl true sz (List.replicate n.toNat (zero.map .val))))]⟩
    | _, _ => none
  | .ext x i =>
    match ev E x with
    | .tp l => match l[i]? with | some c => some ⟨True, [], c, []⟩ | none => none
    | _ => none
  | .nilc x =>
    match ev E x with
    | .ob id o => some ⟨True, [], .ob id o, []⟩
    | .pu (.rp cells) => some ⟨True, [], .pu (.rp cells), []⟩
    | .cl f caps => some ⟨True, [], .cl f caps, []⟩
    | .pu (.cl f caps) => some ⟨True, [], .pu (.cl f caps), []⟩
    | _ => none
  | .toInt k x =>
    match ev E x with
    | .pu (.val (.int _ n)) => some ⟨True, [], vi k (k.wrap n), []⟩
    | _ => none
  | .mkfn f caps => some ⟨True, [], .cl f (caps.map (ev E)), []⟩
  | .str x =>
    match ev E x with
    | .so id st n => match sget S id with
      | some (.slc st' (.sl _ _ rows)) => match byteRows rows with
        | some ns => some ⟨st = st' ∧ n = rows.length, [id], vs (ns.foldl (fun r n => r.push (UInt8.ofNat n.toNat)) ByteArray.empty), []⟩
        | none => none
      | _ => none
    | _ => none
  | _ => none

end Go.Proofs.YtcaemkcglflmnaaDoor.Vm
