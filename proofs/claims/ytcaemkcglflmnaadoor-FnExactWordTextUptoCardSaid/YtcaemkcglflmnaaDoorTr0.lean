/-
  Functions of the program as plain functions, each with the proof that the program does what it tells. Printed by tr.py. Conditions: none.
-/
import Derived.Test.YtcaemkcglflmnaaDoorVmW
import Derived.Test.YtcaemkcglflmnaaDoorProg
import Derived.KernelRfl
import Derived.Lib.ItoaNum
namespace Go.Proofs.YtcaemkcglflmnaaDoor.Vm
open Go Go.Proofs
set_option linter.unusedVariables false
set_option linter.unusedSimpArgs false
set_option maxRecDepth 4000
instance : Tbl := ⟨[(2, (Lib.pow10Tab.map fun z => Value.int .u64 z).toArray)]⟩
theorem hmix : Tryd.prog.follows .mixedOrders = true := by decide
inductive T_rI where
  | mk (c0 : List T_rI) (c1 : Int)
instance : Inhabited T_rI := ⟨.mk [] 0⟩
def T_rI.c0 : T_rI → List T_rI
  | .mk x _ => x
def T_rI.c1 : T_rI → Int
  | .mk _ x => x
theorem T_rI.eta (x : T_rI) : T_rI.mk x.c0 x.c1 = x := by cases x; rfl
mutual
def x_rI (o : Bool) : T_rI → List D
  | .mk c0 c1 => [.sl o 2 (e_rI o c0), .val (.int .i64 c1)]
def e_rI (o : Bool) : List T_rI → List (List D)
  | [] => []
  | t :: l => x_rI o t :: e_rI o l
end
def r_rI (o : Bool) (x : T_rI) : List D := [.sl o 2 (e_rI o x.c0), .val (.int .i64 x.c1)]
theorem er_rI (o : Bool) : ∀ l : List T_rI, e_rI o l = l.map (r_rI o)
  | [] => by simp only [e_rI, List.map_nil]
  | .mk _ _ :: l => by simp only [e_rI, x_rI, List.map_cons, er_rI o l, r_rI, T_rI.c0, T_rI.c1]
mutual
theorem px_rI (o : Bool) : ∀ t : T_rI, D.pl.plL (x_rI o t) = x_rI false t
  | .mk c0 c1 => by simp only [x_rI, D.pl.plL, D.pl, pe_rI o _]
theorem pe_rI (o : Bool) : ∀ l : List T_rI, D.pl.plLL (e_rI o l) = e_rI false l
  | [] => by simp only [e_rI, D.pl.plLL]
  | t :: l => by simp only [e_rI, D.pl.plLL, px_rI o t, pe_rI o l]
end
theorem k_rI : ElOk 2 e_rI r_rI := ⟨er_rI, fun _ _ => rfl, fun o x => by simp only [r_rI, D.pl.plL, D.pl, pe_rI], fun _ => rfl⟩
def r_BLrIz (o : Bool) (x : Bool × List T_rI) : List D := [.val (.bool x.1), .sl o 2 (e_rI o x.2)]
def e_BLrIz (o : Bool) (l : List (Bool × List T_rI)) : List (List D) := l.map (r_BLrIz o)
theorem k_BLrIz : ElOk 2 e_BLrIz r_BLrIz := ⟨fun _ _ => rfl, fun _ _ => rfl, fun o x => by simp only [r_BLrIz, D.pl.plL, D.pl, pub_ok k_rI], fun _ => rfl⟩
def r_S (o : Bool) (x : ByteArray) : List D := [.val (.string x)]
def e_S (o : Bool) (l : List ByteArray) : List (List D) := l.map (r_S o)
theorem k_S : ElOk 1 e_S r_S := ⟨fun _ _ => rfl, fun _ _ => rfl, fun o x => rfl, fun _ => rfl⟩
def r_U (o : Bool) (x : Int) : List D := [.val (.int .u8 x)]
def e_U (o : Bool) (l : List Int) : List (List D) := l.map (r_U o)
theorem k_U : ElOk 1 e_U r_U := ⟨fun _ _ => rfl, fun _ _ => rfl, fun o x => rfl, fun _ => rfl⟩
theorem str_ok (o : Bool) (l : List Int) : ∃ ns, byteRows (e_U o l) = some ns ∧ ns.foldl (fun r n => r.push (UInt8.ofNat n.toNat)) ByteArray.empty = strn l := ⟨l, by induction l with
    | nil => rfl
    | cons a l ih => simp only [e_U, List.map_cons, r_U, byteRows] at ih ⊢; rw [ih]; rfl, rfl⟩
end Go.Proofs.YtcaemkcglflmnaaDoor.Vm
