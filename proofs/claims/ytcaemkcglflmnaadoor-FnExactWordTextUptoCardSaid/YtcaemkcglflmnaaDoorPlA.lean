/-
  Plain lists: places in a list that is gone through; sizes of ordinals. Conditions: none.
-/
import Derived.Test.YtcaemkcglflmnaaDoorTr0
namespace Go.Proofs.YtcaemkcglflmnaaDoor.Vm
open Go Go.Proofs Go.RowKit
set_option linter.unusedVariables false
set_option linter.unusedSimpArgs false

theorem wr_id {n : Int} (h1 : -9223372036854775808 ≤ n) (h2 : n < 9223372036854775808) : wr n = n := by
  simp only [wr, IntKind.wrap, IntKind.bits, IntKind.signed] <;> first | (simp; omega) | omega

abbrev big : Nat := 4611686018427387904
/-- From the place i on stands t. -/
structure Sf {α : Type} (l : List α) (i : Nat) (t : List α) : Prop where
  e : l.drop i = t
  l : i + t.length = l.length
section
variable {α : Type} {l t : List α} {i : Nat} {x : α}
theorem Sf.start (l : List α) : Sf l 0 l := ⟨rfl, by simp⟩
theorem Sf.ge (h : Sf l i []) : decide ((i : Int) < (l.length : Int)) = false := by
  have := h.l; simp at this; simp; omega
theorem Sf.lt (h : Sf l i (x :: t)) : decide ((i : Int) < (l.length : Int)) = true := by
  have := h.l; simp at this; simp; omega
theorem Sf.get (h : Sf l i (x :: t)) : l[i]? = some x := by
  have := congrArg (fun z => z[0]?) h.e
  simpa using this
theorem Sf.idx (h : Sf l i (x :: t)) : idx l (i : Int) = some x := by
  simp [Vm.idx, h.get]
theorem Sf.step (h : Sf l i (x :: t)) : Sf l (i + 1) t := by
  refine ⟨?_, by have := h.l; simp at this; omega⟩
  have := congrArg (fun z => z.drop 1) h.e
  simpa using this
theorem Sf.wr (h : Sf l i (x :: t)) (hb : l.length < big) : wr ((i : Int) + 1) = ((i + 1 : Nat) : Int) := by
  have := h.l
  simp only [big] at hb
  simp at this
  rw [wr_id (by omega) (by omega)]
  simp
theorem Sf.le (h : Sf l i t) : t.length ≤ l.length := by have := h.l; omega
/-- The element before. -/
def Pv (l : List α) (i : Nat) : Option α → Prop
  | none => i = 0
  | some y => ∃ j, i = j + 1 ∧ l[j]? = some y
theorem Pv.start (l : List α) : Pv l 0 none := rfl
theorem Pv.step (h : Sf l i (x :: t)) : Pv l (i + 1) (some x) := ⟨i, rfl, h.get⟩
theorem Pv.no (h : Pv l i none) : decide ((i : Int) > 0) = false := by simp only [Pv] at h; subst h; rfl
theorem Pv.yes {y : α} (h : Pv l i (some y)) : decide ((i : Int) > 0) = true := by obtain ⟨j, rfl, _⟩ := h; simp
theorem Pv.idx {y : α} (h : Pv l i (some y)) (hb : l.length < big) : Vm.idx l (Vm.wr ((i : Int) - 1)) = some y := by
  obtain ⟨j, rfl, hj⟩ := h
  have hlt := (List.getElem?_eq_some_iff.1 hj).1
  simp only [big] at hb
  have e : Vm.wr (((j + 1 : Nat) : Int) - 1) = (j : Int) := by rw [wr_id (by omega) (by omega)]; omega
  rw [e]
  simp [Vm.idx, hj]
end
theorem appn_ok {α : Type} {b : Nat} {l m : List α} (h : (l.length + m.length) * (b + 1) ≤ 140737488355328) : appn b l m = some (l ++ m) := by unfold appn; rw [if_pos h]
theorem mkn_ok {α : Type} {b n : Nat} {z : α} (h : n * (b + 1) ≤ 140737488355328) : mkn b (n : Int) z = some (List.replicate n z) := by
  unfold mkn
  have h2 := Int.ofNat_le.2 h
  rw [Int.natCast_mul, Int.natCast_add] at h2
  rw [if_pos ⟨by omega, h2⟩, Int.toNat_natCast]

/-! ### ordinals -/
mutual
def T_rI.cnt : T_rI → Nat
  | .mk e _ => 1 + cntL e
def cntL : List T_rI → Nat
  | [] => 0
  | t :: l => t.cnt + cntL l
end
theorem cnt_eq (t : T_rI) : t.cnt = 1 + cntL t.c0 := by cases t; simp [T_rI.cnt, T_rI.c0]
theorem cntL_cons (t : T_rI) (l : List T_rI) : cntL (t :: l) = 1 + cntL t.c0 + cntL l := by simp only [cntL, cnt_eq]
theorem cntL_nil : cntL [] = 0 := by simp [cntL]
theorem len_cnt : ∀ l : List T_rI, l.length ≤ cntL l
  | [] => by simp
  | t :: l => by have := len_cnt l; rw [cntL_cons]; simp; omega
theorem mem_cnt {l : List T_rI} {x : T_rI} (h : x ∈ l) : 1 + cntL x.c0 ≤ cntL l := by
  induction l with
  | nil => simp at h
  | cons a l ih =>
    rw [cntL_cons]
    rcases List.mem_cons.1 h with rfl | h
    · omega
    · have := ih h; omega
theorem Sf.mem {α : Type} {l t : List α} {i : Nat} {x : α} (h : Sf l i (x :: t)) : x ∈ l := List.mem_of_getElem? h.get
theorem Sf.cnt {l t : List T_rI} {i : Nat} (h : Sf l i t) : cntL t ≤ cntL l := by
  have key : ∀ (l : List T_rI) (i : Nat), cntL (l.drop i) ≤ cntL l := by
    intro l
    induction l with
    | nil => intro i; simp
    | cons a l ih =>
      intro i
      cases i with
      | zero => simp
      | succ i => have := ih i; rw [cntL_cons]; simp; omega
  rw [← h.e]; exact key l i

end Go.Proofs.YtcaemkcglflmnaaDoor.Vm
