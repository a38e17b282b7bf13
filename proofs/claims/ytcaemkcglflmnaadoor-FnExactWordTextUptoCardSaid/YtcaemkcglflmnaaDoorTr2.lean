/-
  Functions of the program as plain functions, each with the proof that the program does what it tells. Printed by tr.py. Conditions: none.
-/
import Derived.Test.YtcaemkcglflmnaaDoorTr1
import Derived.Test.YtcaemkcglflmnaaDoorHand
namespace Go.Proofs.YtcaemkcglflmnaaDoor.Vm
open Go Go.Proofs
set_option linter.unusedVariables false
set_option linter.unusedSimpArgs false
set_option maxRecDepth 4000
abbrev c_laws_toRunS_r0 : CC := .reg [
    ⟨(some 2), none, .mv (.c (.slice none 0 0))⟩]
abbrev c_laws_toRunS_r1 : CC := .reg [
    ⟨(some 5), none, .mv (.t 0)⟩,
    ⟨(some 6), none, .len false (.t 5)⟩,
    ⟨(some 7), none, .mkSl 2 32 [.bool false, .slice none 0 0] (.t 6) (.t 6)⟩,
    ⟨(some 3), none, .mv (.t 7)⟩]
abbrev c_laws_toRunS_r2 : CC := .reg [
    ⟨(some 4), none, .mv (.c (.int .i64 0))⟩]
abbrev c_laws_toRunS_r3 : CC := .reg [
    ⟨(some 8), none, .mv (.t 4)⟩,
    ⟨(some 9), none, .mv (.t 0)⟩,
    ⟨(some 10), none, .len false (.t 9)⟩,
    ⟨(some 11), none, .bin .lss (.t 8) (.t 10)⟩]
abbrev c_laws_toRunS_k12 : CC := (.cond (.t 11) .skip (.exit 0))
abbrev c_laws_toRunS_r5 : CC := .reg [
    ⟨(some 14), none, .mv (.t 3)⟩,
    ⟨(some 15), none, .mv (.t 4)⟩,
    ⟨(some 16), none, .mv (.t 0)⟩,
    ⟨(some 17), none, .mv (.t 4)⟩,
    ⟨(some 18), none, .iadr 2 (.t 16) (.t 17)⟩,
    ⟨(some 19), none, .load 2 true (.t 18)⟩,
    ⟨(some 20), none, .call false (.f 62) [(.t 19)]⟩,
    ⟨(some 21), none, .iadr 2 (.t 14) (.t 15)⟩,
    ⟨none, none, .store 2 (.t 21) (.t 20)⟩]
abbrev c_laws_toRunS_r4 : CC := .reg [
    ⟨(some 12), none, .mv (.t 4)⟩,
    ⟨(some 13), none, .bin .add (.t 12) (.c (.int .i64 1))⟩,
    ⟨(some 4), none, .mv (.t 13)⟩]
abbrev c_laws_toRunS_k15 : CC := (.seq (.block 1 c_laws_toRunS_r5) c_laws_toRunS_r4)
abbrev c_laws_toRunS_k9 : CC := (.seq (.seq c_laws_toRunS_r3 c_laws_toRunS_k12) c_laws_toRunS_k15)
abbrev c_laws_toRunS_k7 : CC := (.block 0 (.loop c_laws_toRunS_k9))
abbrev c_laws_toRunS_r6 : CC := .reg [
    ⟨(some 22), none, .mv (.t 3)⟩,
    ⟨(some 2), none, .mv (.t 22)⟩]
abbrev c_laws_toRunS_k19 : CC := (.seq c_laws_toRunS_r6 .ret)
abbrev c_laws_toRunS_k4 : CC := (.seq (.seq c_laws_toRunS_r2 c_laws_toRunS_k7) c_laws_toRunS_k19)
abbrev c_laws_toRunS_k2 : CC := (.seq c_laws_toRunS_r1 c_laws_toRunS_k4)
abbrev c_laws_toRunS_k0 : CC := (.seq c_laws_toRunS_r0 c_laws_toRunS_k2)
abbrev c_laws_toRunS : CF := ⟨23, [.tmp 2], c_laws_toRunS_k0⟩
abbrev F_laws_toRunS : Nat := 33
theorem ok_laws_toRunS : compileF Tryd.prog 33 = some c_laws_toRunS := by kernel_rfl
def fc_n_laws_toRunS (a : List (Bool × List T_rI)) (r : (List (Bool × List T_rI))) : FC := ⟨[.v (.sl false 2 (e_BLrIz false a))], [.tmp 2], .sl true 2 (e_BLrIz false r), [.v (.sl false 2 (e_BLrIz false a))]⟩
def T_n_laws_toRunS_8 (a : List (Bool × List T_rI)) (i_k8_1 : Int) (out_k8_0 : List (Bool × List T_rI)) : St := ([(0, .pu (.sl false 2 (e_BLrIz false a))), (3, .so 500192 0 (e_BLrIz false out_k8_0).length), (4, .pu (.val (.int .i64 i_k8_1)))], [(500192, .slc 0 (.sl true 2 (e_BLrIz false out_k8_0)))])
def n_laws_toRunS_b8   (k8 : (List (Bool × List T_rI)) → Int → (List (Bool × List T_rI)) → Option (List (Bool × List T_rI))) (a : List (Bool × List T_rI)) (i_k8_1 : Int) (out_k8_0 : List (Bool × List T_rI)) : Option (List (Bool × List T_rI)) :=
  (bif (decide (i_k8_1 < (a.length : Int))) then
    ((idx a i_k8_1).bind fun (v18_8 : Bool × List T_rI) =>
    ((n_laws_toRun v18_8.1 v18_8.2).bind fun (v20_8 : Bool × List T_rI) =>
    ((idx out_k8_0 i_k8_1).bind fun (v21_8 : Bool × List T_rI) =>
    k8 a (wr (i_k8_1 + 1)) (out_k8_0.set (i_k8_1).toNat v20_8))))
  else
    some out_k8_0)
def n_laws_toRunS_l8   : Nat → (List (Bool × List T_rI)) → Int → (List (Bool × List T_rI)) → Option (List (Bool × List T_rI))
  | 0, _, _, _ => none
  | n + 1, a, i_k8_1, out_k8_0 => n_laws_toRunS_b8   (n_laws_toRunS_l8   n) a i_k8_1 out_k8_0
theorem n_laws_toRunS_b8_ok {I : Nat → St → Prop}    {a_0 : List (Bool × List T_rI)} {r : (List (Bool × List T_rI))}  {k8 : (List (Bool × List T_rI)) → Int → (List (Bool × List T_rI)) → Option (List (Bool × List T_rI))} (hI8 : ∀ (a : List (Bool × List T_rI)) (i_k8_1 : Int) (out_k8_0 : List (Bool × List T_rI)), k8 a i_k8_1 out_k8_0 = some r → I 1 (T_n_laws_toRunS_8 a i_k8_1 out_k8_0)) {a : List (Bool × List T_rI)} {i_k8_1 : Int} {out_k8_0 : List (Bool × List T_rI)} (h : n_laws_toRunS_b8   k8 a i_k8_1 out_k8_0 = some r) : wpx Tryd.prog (FC.pn (fc_n_laws_toRunS a_0 r)) c_laws_toRunS_k9 (kq Tryd.prog (fc_n_laws_toRunS a_0 r) I [.lp 1, .blk 0, .sq c_laws_toRunS_k19]) (T_n_laws_toRunS_8 a i_k8_1 out_k8_0).1 (T_n_laws_toRunS_8 a i_k8_1 out_k8_0).2 := by
  unfold n_laws_toRunS_b8 at h
  refine bif_elim h (fun c1 h => ?_) (fun c1 h => ?_)
  · refine bind_elim h (fun v18_8 c2 h => ?_)
    refine bind_elim h (fun v20_8 c3 h => ?_)
    refine bind_elim h (fun v21_8 c4 h => ?_)
    exact wayB 200 [.len (len_ok k_BLrIz false a), .br c1, .row (row_ok k_BLrIz (o := false) c2), .call (n_laws_toRun_ok c3), .inb (inb_ok k_BLrIz (o := false) c4), .eset (eset_ok k_BLrIz (o := false) c4 (x' := v20_8) (j := 0) (m := 2) (ds := [.val (.bool v20_8.1), .sl false 2 (e_rI false v20_8.2)]) rfl rfl), .gso 3 (set_len k_BLrIz false out_k8_0 (i_k8_1).toNat v20_8), .gso 14 (set_len k_BLrIz false out_k8_0 (i_k8_1).toNat v20_8), .stop [] (T_n_laws_toRunS_8 a (wr (i_k8_1 + 1)) (out_k8_0.set (i_k8_1).toNat v20_8))] 1 (hI8 _ _ _ h) (by kernel_rfl)
  · cases h
    exact wayR 200 [.len (len_ok k_BLrIz false a), .br c1, .fin0] (by kernel_rfl)
theorem n_laws_toRunS_l8_ok {I : Nat → St → Prop}    {a_0 : List (Bool × List T_rI)} {r : (List (Bool × List T_rI))}  : ∀ (n : Nat) (a : List (Bool × List T_rI)) (i_k8_1 : Int) (out_k8_0 : List (Bool × List T_rI)), n_laws_toRunS_l8   n a i_k8_1 out_k8_0 = some r → wpx Tryd.prog (FC.pn (fc_n_laws_toRunS a_0 r)) (.loop c_laws_toRunS_k9) (kq Tryd.prog (fc_n_laws_toRunS a_0 r) I [.blk 0, .sq c_laws_toRunS_k19]) (T_n_laws_toRunS_8 a i_k8_1 out_k8_0).1 (T_n_laws_toRunS_8 a i_k8_1 out_k8_0).2 := by
  intro n a i_k8_1 out_k8_0 h
  exact loopN (fc := (fc_n_laws_toRunS a_0 r)) (I := I) (j := 1) (V := (List (Bool × List T_rI)) × Int × (List (Bool × List T_rI))) (fun n v => n_laws_toRunS_l8   n v.1 v.2.1 v.2.2) (fun v => T_n_laws_toRunS_8 v.1 v.2.1 v.2.2) r (fun v h => by simp [n_laws_toRunS_l8] at h) (fun n v h I' hne hI' => n_laws_toRunS_b8_ok   (k8 := n_laws_toRunS_l8   n) (fun a i_k8_1 out_k8_0 h => hI' (a, i_k8_1, out_k8_0) h) h) (fun I' hne => kq_congr fun i hi => hne i (notIn_ne (by rfl) i hi)) n (a, i_k8_1, out_k8_0) h
def n_laws_toRunS  (a : List (Bool × List T_rI)) : Option (List (Bool × List T_rI)) :=
  ((mkn 32 (a.length : Int) (false, [])).bind fun (v7_0 : List (Bool × List T_rI)) =>
  n_laws_toRunS_l8 fuel a 0 v7_0)
theorem n_laws_toRunS_way {I : Nat → St → Prop}   {a : List (Bool × List T_rI)} {r : (List (Bool × List T_rI))} (h : n_laws_toRunS  a = some r) : wpx Tryd.prog (FC.pn (fc_n_laws_toRunS a r)) c_laws_toRunS_k0 (kq Tryd.prog (fc_n_laws_toRunS a r) I []) (([(0, .pu (.sl false 2 (e_BLrIz false a)))], []) : St).1 (([(0, .pu (.sl false 2 (e_BLrIz false a)))], []) : St).2 := by
  unfold n_laws_toRunS at h
  refine bind_elim h (fun v7_0 c1 h => ?_)
  exact way 200 [.len (len_ok k_BLrIz false a), .mk (mkr_ok c1 [.val (.bool false), .val (.slice none 0 0)]), .gle 7 (gle_mk k_BLrIz c1 (zr := [.val (.bool false), .val (.slice none 0 0)]) (DLes.c (DLe.refl _) (DLes.c (DLe.nil _ _) DLes.z))), .gso 3 (mk_len k_BLrIz c1 [.val (.bool false), .val (.slice none 0 0)]), .gso 7 (mk_len k_BLrIz c1 [.val (.bool false), .val (.slice none 0 0)]), .stop [(500192, 7)] (T_n_laws_toRunS_8 a 0 v7_0)] (n_laws_toRunS_l8_ok _ _ _ _ h) (by kernel_rfl)
theorem n_laws_toRunS_ok   {a : List (Bool × List T_rI)} {r : (List (Bool × List T_rI))} (h : n_laws_toRunS  a = some r) : Sound Tryd.prog F_laws_toRunS [.v (.sl false 2 (e_BLrIz false a))] (.sl true 2 (e_BLrIz false r)) [.v (.sl false 2 (e_BLrIz false a))] :=
  soundX hmix ok_laws_toRunS (fc := (fc_n_laws_toRunS a r)) rfl (S₀ := []) rfl rfl (n_laws_toRunS_way  h)

abbrev c_laws_toWord_r0 : CC := .reg [
    ⟨(some 1), none, .box (.t 0)⟩,
    ⟨(some 2), none, .alloc [.slice none 0 0]⟩]
abbrev c_laws_toWord_r1 : CC := .reg [
    ⟨(some 3), none, .alloc [.slice none 0 0]⟩]
abbrev c_laws_toWord_r2 : CC := .reg [
    ⟨(some 4), none, .fadr 0 (.t 1)⟩,
    ⟨(some 5), none, .load 1 false (.t 4)⟩,
    ⟨(some 6), none, .call false (.f 33) [(.t 5)]⟩,
    ⟨(some 7), none, .fadr 0 (.t 3)⟩,
    ⟨none, none, .store 1 (.t 7) (.t 6)⟩]
abbrev c_laws_toWord_r3 : CC := .reg [
    ⟨(some 8), none, .load 1 true (.t 3)⟩,
    ⟨none, none, .store 1 (.t 2) (.t 8)⟩]
abbrev c_laws_toWord_k6 : CC := (.seq c_laws_toWord_r3 .ret)
abbrev c_laws_toWord_k4 : CC := (.seq c_laws_toWord_r2 c_laws_toWord_k6)
abbrev c_laws_toWord_k2 : CC := (.seq c_laws_toWord_r1 c_laws_toWord_k4)
abbrev c_laws_toWord_k0 : CC := (.seq c_laws_toWord_r0 c_laws_toWord_k2)
abbrev c_laws_toWord : CF := ⟨9, [.cell 2 1 true], c_laws_toWord_k0⟩
abbrev F_laws_toWord : Nat := 13
theorem ok_laws_toWord : compileF Tryd.prog 13 = some c_laws_toWord := by kernel_rfl
def fc_n_laws_toWord (a : List (Bool × List T_rI)) (r : (List (Bool × List T_rI))) : FC := ⟨[.v (.ag [.sl false 2 (e_BLrIz false a)])], [.cell 2 1 true], .ag [.sl true 2 (e_BLrIz false r)], [.v (.ag [.sl false 2 (e_BLrIz false a)])]⟩
def n_laws_toWord  (a : List (Bool × List T_rI)) : Option (List (Bool × List T_rI)) :=
  ((n_laws_toRunS a).bind fun (v6_0 : (List (Bool × List T_rI))) =>
  some v6_0)
theorem n_laws_toWord_way {I : Nat → St → Prop}   {a : List (Bool × List T_rI)} {r : (List (Bool × List T_rI))} (h : n_laws_toWord  a = some r) : wpx Tryd.prog (FC.pn (fc_n_laws_toWord a r)) c_laws_toWord_k0 (kq Tryd.prog (fc_n_laws_toWord a r) I []) (([(0, .ag [.pu (.sl false 2 (e_BLrIz false a))])], []) : St).1 (([(0, .ag [.pu (.sl false 2 (e_BLrIz false a))])], []) : St).2 := by
  unfold n_laws_toWord at h
  refine bind_elim h (fun v6_0 c1 h => ?_)
  cases h
  exact wayR 200 [.call (n_laws_toRunS_ok c1), .fin0] (by kernel_rfl)
theorem n_laws_toWord_ok   {a : List (Bool × List T_rI)} {r : (List (Bool × List T_rI))} (h : n_laws_toWord  a = some r) : Sound Tryd.prog F_laws_toWord [.v (.ag [.sl false 2 (e_BLrIz false a)])] (.ag [.sl true 2 (e_BLrIz false r)]) [.v (.ag [.sl false 2 (e_BLrIz false a)])] :=
  soundX hmix ok_laws_toWord (fc := (fc_n_laws_toWord a r)) rfl (S₀ := []) rfl rfl (n_laws_toWord_way  h)

abbrev c_spec_l1In_r0 : CC := .reg [
    ⟨(some 6), none, .mv (.c (.bool false))⟩]
abbrev c_spec_l1In_r1 : CC := .reg [
    ⟨(some 7), none, .mv (.t 0)⟩,
    ⟨(some 8), none, .mv (.t 1)⟩,
    ⟨(some 9), none, .bin .geq (.t 7) (.t 8)⟩,
    ⟨(some 10), none, .mv (.t 9)⟩,
    ⟨(some 11), (some (10, true)), .mv (.t 0)⟩,
    ⟨(some 12), (some (10, true)), .mv (.t 2)⟩,
    ⟨(some 13), (some (10, true)), .bin .leq (.t 11) (.t 12)⟩,
    ⟨(some 14), none, .pick (.t 10) (.t 13) (.c (.bool false))⟩,
    ⟨(some 6), none, .mv (.t 14)⟩]
abbrev c_spec_l1In_k2 : CC := (.seq c_spec_l1In_r1 .ret)
abbrev c_spec_l1In_k0 : CC := (.seq c_spec_l1In_r0 c_spec_l1In_k2)
abbrev c_spec_l1In : CF := ⟨15, [.tmp 6], c_spec_l1In_k0⟩
abbrev F_spec_l1In : Nat := 105
theorem ok_spec_l1In : compileF Tryd.prog 105 = some c_spec_l1In := by kernel_rfl
def fc_n_spec_l1In (n_ : Int) (lo : Int) (hi : Int) (r : Bool) : FC := ⟨[.v (.val (.int .i64 n_)), .v (.val (.int .i64 lo)), .v (.val (.int .i64 hi))], [.tmp 6], .val (.bool r), [.v (.val (.int .i64 n_)), .v (.val (.int .i64 lo)), .v (.val (.int .i64 hi))]⟩
def n_spec_l1In  (n_ : Int) (lo : Int) (hi : Int) : Option Bool :=
  (bif (decide (n_ ≥ lo)) then
    some (decide (n_ ≤ hi))
  else
    some false)
theorem n_spec_l1In_way {I : Nat → St → Prop}   {n_ : Int} {lo : Int} {hi : Int} {r : Bool} (h : n_spec_l1In  n_ lo hi = some r) : wpx Tryd.prog (FC.pn (fc_n_spec_l1In n_ lo hi r)) c_spec_l1In_k0 (kq Tryd.prog (fc_n_spec_l1In n_ lo hi r) I []) (([(0, .pu (.val (.int .i64 n_))), (1, .pu (.val (.int .i64 lo))), (2, .pu (.val (.int .i64 hi)))], []) : St).1 (([(0, .pu (.val (.int .i64 n_))), (1, .pu (.val (.int .i64 lo))), (2, .pu (.val (.int .i64 hi)))], []) : St).2 := by
  unfold n_spec_l1In at h
  refine bif_elim h (fun c1 h => ?_) (fun c1 h => ?_)
  · cases h
    exact wayR 200 [.br c1, .br c1, .br c1, .br c1, .fin0] (by kernel_rfl)
  · cases h
    exact wayR 200 [.br c1, .br c1, .br c1, .br c1, .fin0] (by kernel_rfl)
theorem n_spec_l1In_ok   {n_ : Int} {lo : Int} {hi : Int} {r : Bool} (h : n_spec_l1In  n_ lo hi = some r) : Sound Tryd.prog F_spec_l1In [.v (.val (.int .i64 n_)), .v (.val (.int .i64 lo)), .v (.val (.int .i64 hi))] (.val (.bool r)) [.v (.val (.int .i64 n_)), .v (.val (.int .i64 lo)), .v (.val (.int .i64 hi))] :=
  soundX hmix ok_spec_l1In (fc := (fc_n_spec_l1In n_ lo hi r)) rfl (S₀ := []) rfl rfl (n_spec_l1In_way  h)

abbrev c_spec_l1Sign_r0 : CC := .reg [
    ⟨(some 2), none, .mv (.c (.int .i64 0))⟩]
abbrev c_spec_l1Sign_r1 : CC := .reg [
    ⟨(some 4), none, .mv (.t 0)⟩,
    ⟨(some 5), none, .bin .gtr (.t 4) (.c (.int .i64 0))⟩,
    ⟨(some 3), none, .mv (.t 5)⟩]
abbrev c_spec_l1Sign_r2 : CC := .reg [
    ⟨(some 2), none, .mv (.c (.int .i64 1))⟩]
abbrev c_spec_l1Sign_r3 : CC := .reg [
    ⟨(some 7), none, .mv (.t 0)⟩,
    ⟨(some 8), none, .bin .lss (.t 7) (.c (.int .i64 0))⟩,
    ⟨(some 6), none, .mv (.t 8)⟩]
abbrev c_spec_l1Sign_r4 : CC := .reg [
    ⟨(some 2), none, .mv (.c (.int .i64 (-1)))⟩]
abbrev c_spec_l1Sign_k12 : CC := (.cond (.t 6) (.seq c_spec_l1Sign_r4 .ret) .skip)
abbrev c_spec_l1Sign_k6 : CC := (.cond (.t 3) (.seq c_spec_l1Sign_r2 .ret) (.seq c_spec_l1Sign_r3 c_spec_l1Sign_k12))
abbrev c_spec_l1Sign_r5 : CC := .reg [
    ⟨(some 2), none, .mv (.c (.int .i64 0))⟩]
abbrev c_spec_l1Sign_k17 : CC := (.seq c_spec_l1Sign_r5 .ret)
abbrev c_spec_l1Sign_k2 : CC := (.seq (.block 0 (.seq c_spec_l1Sign_r1 c_spec_l1Sign_k6)) c_spec_l1Sign_k17)
abbrev c_spec_l1Sign_k0 : CC := (.seq c_spec_l1Sign_r0 c_spec_l1Sign_k2)
abbrev c_spec_l1Sign : CF := ⟨9, [.tmp 2], c_spec_l1Sign_k0⟩
abbrev F_spec_l1Sign : Nat := 97
theorem ok_spec_l1Sign : compileF Tryd.prog 97 = some c_spec_l1Sign := by kernel_rfl
def fc_n_spec_l1Sign (n_ : Int) (r : Int) : FC := ⟨[.v (.val (.int .i64 n_))], [.tmp 2], .val (.int .i64 r), [.v (.val (.int .i64 n_))]⟩
def n_spec_l1Sign  (n_ : Int) : Option Int :=
  (bif (decide (n_ > 0)) then
    some 1
  else
    (bif (decide (n_ < 0)) then
      some (-1)
    else
      some 0))
theorem n_spec_l1Sign_way {I : Nat → St → Prop}   {n_ : Int} {r : Int} (h : n_spec_l1Sign  n_ = some r) : wpx Tryd.prog (FC.pn (fc_n_spec_l1Sign n_ r)) c_spec_l1Sign_k0 (kq Tryd.prog (fc_n_spec_l1Sign n_ r) I []) (([(0, .pu (.val (.int .i64 n_)))], []) : St).1 (([(0, .pu (.val (.int .i64 n_)))], []) : St).2 := by
  unfold n_spec_l1Sign at h
  refine bif_elim h (fun c1 h => ?_) (fun c1 h => ?_)
  · cases h
    exact wayR 200 [.br c1, .fin0] (by kernel_rfl)
  · refine bif_elim h (fun c2 h => ?_) (fun c2 h => ?_)
    · cases h
      exact wayR 200 [.br c1, .br c2, .fin0] (by kernel_rfl)
    · cases h
      exact wayR 200 [.br c1, .br c2, .fin0] (by kernel_rfl)
theorem n_spec_l1Sign_ok   {n_ : Int} {r : Int} (h : n_spec_l1Sign  n_ = some r) : Sound Tryd.prog F_spec_l1Sign [.v (.val (.int .i64 n_))] (.val (.int .i64 r)) [.v (.val (.int .i64 n_))] :=
  soundX hmix ok_spec_l1Sign (fc := (fc_n_spec_l1Sign n_ r)) rfl (S₀ := []) rfl rfl (n_spec_l1Sign_way  h)

abbrev c_spec_odCmp_r0 : CC := .reg [
    ⟨(some 2), none, .box (.t 0)⟩,
    ⟨(some 3), none, .box (.t 1)⟩,
    ⟨(some 4), none, .mv (.c (.int .i64 0))⟩]
abbrev c_spec_odCmp_r1 : CC := .reg [
    ⟨(some 8), none, .fadr 0 (.t 2)⟩,
    ⟨(some 9), none, .load 1 false (.t 8)⟩,
    ⟨(some 10), none, .len false (.t 9)⟩,
    ⟨(some 11), none, .mv (.c (.int .i64 0))⟩]
abbrev c_spec_odCmp_r2 : CC := .reg [
    ⟨(some 12), none, .bin .lss (.t 11) (.t 10)⟩]
abbrev c_spec_odCmp_r3 : CC := .reg [
    ⟨(some 13), none, .mv (.t 11)⟩,
    ⟨(some 14), none, .iadr 2 (.t 9) (.t 11)⟩,
    ⟨(some 15), none, .load 2 true (.t 14)⟩,
    ⟨(some 6), none, .alloc [.slice none 0 0, .int .i64 0]⟩,
    ⟨(some 5), none, .mv (.t 13)⟩,
    ⟨none, none, .store 2 (.t 6) (.t 15)⟩]
abbrev c_spec_odCmp_r4 : CC := .reg [
    ⟨(some 16), none, .mv (.t 5)⟩,
    ⟨(some 17), none, .fadr 0 (.t 3)⟩,
    ⟨(some 18), none, .load 1 false (.t 17)⟩,
    ⟨(some 19), none, .len false (.t 18)⟩,
    ⟨(some 20), none, .bin .eql (.t 16) (.t 19)⟩]
abbrev c_spec_odCmp_r5 : CC := .reg [
    ⟨(some 4), none, .mv (.c (.int .i64 1))⟩]
abbrev c_spec_odCmp_k20 : CC := (.cond (.t 20) (.seq c_spec_odCmp_r5 .ret) .skip)
abbrev c_spec_odCmp_r6 : CC := .drw [
    ⟨(some 21), none, .fadr 0 (.t 6)⟩,
    ⟨(some 22), none, .load 1 true (.t 21)⟩,
    ⟨(some 23), none, .fadr 0 (.t 3)⟩,
    ⟨(some 24), none, .load 1 false (.t 23)⟩,
    ⟨(some 25), none, .mv (.t 5)⟩,
    ⟨(some 26), none, .iadr 2 (.t 24) (.t 25)⟩,
    ⟨(some 27), none, .fadr 0 (.t 26)⟩,
    ⟨(some 28), none, .load 1 true (.t 27)⟩,
    ⟨(some 29), none, .call true (.f 60) [(.t 22), (.t 28)]⟩,
    ⟨(some 7), none, .mv (.t 29)⟩] [(0, 2), (1, 2), (0, 3), (1, 3), (0, 4), (1, 4), (2, 4), (3, 4), (0, 5), (1, 5), (0, 6), (1, 6), (0, 7), (1, 7)]
abbrev c_spec_odCmp_r7 : CC := .reg [
    ⟨(some 30), none, .mv (.t 7)⟩,
    ⟨(some 31), none, .bin .neq (.t 30) (.c (.int .i64 0))⟩]
abbrev c_spec_odCmp_r8 : CC := .reg [
    ⟨(some 32), none, .mv (.t 7)⟩,
    ⟨(some 4), none, .mv (.t 32)⟩]
abbrev c_spec_odCmp_k30 : CC := (.cond (.t 31) (.seq c_spec_odCmp_r8 .ret) .skip)
abbrev c_spec_odCmp_k28 : CC := (.seq c_spec_odCmp_r7 c_spec_odCmp_k30)
abbrev c_spec_odCmp_r9 : CC := .drw [
    ⟨(some 33), none, .fadr 1 (.t 6)⟩,
    ⟨(some 34), none, .load 1 false (.t 33)⟩,
    ⟨(some 35), none, .fadr 0 (.t 3)⟩,
    ⟨(some 36), none, .load 1 false (.t 35)⟩,
    ⟨(some 37), none, .mv (.t 5)⟩,
    ⟨(some 38), none, .iadr 2 (.t 36) (.t 37)⟩,
    ⟨(some 39), none, .fadr 1 (.t 38)⟩,
    ⟨(some 40), none, .load 1 false (.t 39)⟩,
    ⟨(some 41), none, .bin .neq (.t 34) (.t 40)⟩] [(0, 2), (1, 2), (0, 3), (1, 3), (0, 4), (1, 4), (2, 4), (3, 4), (0, 5), (1, 5), (0, 6), (1, 6), (0, 7), (1, 7)]
abbrev c_spec_odCmp_r10 : CC := .drw [
    ⟨(some 42), none, .fadr 1 (.t 6)⟩,
    ⟨(some 43), none, .load 1 false (.t 42)⟩,
    ⟨(some 44), none, .fadr 0 (.t 3)⟩,
    ⟨(some 45), none, .load 1 false (.t 44)⟩,
    ⟨(some 46), none, .mv (.t 5)⟩,
    ⟨(some 47), none, .iadr 2 (.t 45) (.t 46)⟩,
    ⟨(some 48), none, .fadr 1 (.t 47)⟩,
    ⟨(some 49), none, .load 1 false (.t 48)⟩,
    ⟨(some 50), none, .bin .sub (.t 43) (.t 49)⟩,
    ⟨(some 51), none, .call true (.f 97) [(.t 50)]⟩,
    ⟨(some 4), none, .mv (.t 51)⟩] [(0, 2), (1, 2), (0, 3), (1, 3), (0, 4), (1, 4), (2, 4), (3, 4), (0, 5), (1, 5), (0, 6), (1, 6), (0, 7), (1, 7)]
abbrev c_spec_odCmp_k37 : CC := (.cond (.t 41) (.seq c_spec_odCmp_r10 .ret) .skip)
abbrev c_spec_odCmp_k35 : CC := (.seq c_spec_odCmp_r9 c_spec_odCmp_k37)
abbrev c_spec_odCmp_k25 : CC := (.seq (.seq c_spec_odCmp_r6 c_spec_odCmp_k28) c_spec_odCmp_k35)
abbrev c_spec_odCmp_k17 : CC := (.seq (.seq c_spec_odCmp_r4 c_spec_odCmp_k20) c_spec_odCmp_k25)
abbrev c_spec_odCmp_r11 : CC := .reg [
    ⟨(some 52), none, .bin .add (.t 11) (.c (.int .i64 1))⟩,
    ⟨(some 11), none, .mv (.t 52)⟩]
abbrev c_spec_odCmp_k13 : CC := (.seq (.block 1 (.seq c_spec_odCmp_r3 c_spec_odCmp_k17)) c_spec_odCmp_r11)
abbrev c_spec_odCmp_k9 : CC := (.seq (.cond (.t 12) .skip (.exit 0)) c_spec_odCmp_k13)
abbrev c_spec_odCmp_k7 : CC := (.seq c_spec_odCmp_r2 c_spec_odCmp_k9)
abbrev c_spec_odCmp_k5 : CC := (.block 0 (.loop c_spec_odCmp_k7))
abbrev c_spec_odCmp_r12 : CC := .reg [
    ⟨(some 53), none, .fadr 0 (.t 3)⟩,
    ⟨(some 54), none, .load 1 false (.t 53)⟩,
    ⟨(some 55), none, .len false (.t 54)⟩,
    ⟨(some 56), none, .fadr 0 (.t 2)⟩,
    ⟨(some 57), none, .load 1 false (.t 56)⟩,
    ⟨(some 58), none, .len false (.t 57)⟩,
    ⟨(some 59), none, .bin .gtr (.t 55) (.t 58)⟩]
abbrev c_spec_odCmp_r13 : CC := .reg [
    ⟨(some 4), none, .mv (.c (.int .i64 (-1)))⟩]
abbrev c_spec_odCmp_k46 : CC := (.cond (.t 59) (.seq c_spec_odCmp_r13 .ret) .skip)
abbrev c_spec_odCmp_r14 : CC := .reg [
    ⟨(some 4), none, .mv (.c (.int .i64 0))⟩]
abbrev c_spec_odCmp_k51 : CC := (.seq c_spec_odCmp_r14 .ret)
abbrev c_spec_odCmp_k43 : CC := (.seq (.seq c_spec_odCmp_r12 c_spec_odCmp_k46) c_spec_odCmp_k51)
abbrev c_spec_odCmp_k2 : CC := (.seq (.seq c_spec_odCmp_r1 c_spec_odCmp_k5) c_spec_odCmp_k43)
abbrev c_spec_odCmp_k0 : CC := (.seq c_spec_odCmp_r0 c_spec_odCmp_k2)
abbrev c_spec_odCmp : CF := ⟨60, [.tmp 4], c_spec_odCmp_k0⟩
abbrev F_spec_odCmp : Nat := 60
theorem ok_spec_odCmp : compileF Tryd.prog 60 = some c_spec_odCmp := by kernel_rfl
def fc_n_spec_odCmp (a : List T_rI) (b : List T_rI) (r : Int) : FC := ⟨[.v (.ag [.sl false 2 (e_rI false a)]), .v (.ag [.sl false 2 (e_rI false b)])], [.tmp 4], .val (.int .i64 r), [.v (.ag [.sl false 2 (e_rI false a)]), .v (.ag [.sl false 2 (e_rI false b)])]⟩
def T_n_spec_odCmp_6 (a : List T_rI) (x_k6_0 : Int) (b : List T_rI) : St := ([(2, .ob 2 0), (3, .ob 3 0), (9, .pu (.sl false 2 (e_rI false a))), (10, .pu (.val (.int .i64 (a.length : Int)))), (11, .pu (.val (.int .i64 x_k6_0)))], [(2, .box [.pu (.sl false 2 (e_rI false a))]), (3, .box [.pu (.sl false 2 (e_rI false b))])])
def n_spec_odCmp_b6 (rf_n_spec_odCmp : List T_rI → List T_rI → Option Int)  (k6 : List T_rI → Int → List T_rI → Option Int) (a : List T_rI) (x_k6_0 : Int) (b : List T_rI) : Option Int :=
  (bif (decide (x_k6_0 < (a.length : Int))) then
    ((idx a x_k6_0).bind fun (v14_6 : T_rI) =>
    (bif (decide (x_k6_0 = (b.length : Int))) then
      some 1
    else
      ((idx b x_k6_0).bind fun (v26_6 : T_rI) =>
      ((rf_n_spec_odCmp v14_6.c0 v26_6.c0).bind fun (v29_6 : Int) =>
      (bif (decide (v29_6 = 0)) then
        ((idx b x_k6_0).bind fun (v38_6 : T_rI) =>
        (bif (decide (v14_6.c1 = v38_6.c1)) then
          k6 a (wr (x_k6_0 + 1)) b
        else
          ((idx b x_k6_0).bind fun (v47_6 : T_rI) =>
          ((n_spec_l1Sign (wr (v14_6.c1 - v47_6.c1))).bind fun (v51_6 : Int) =>
          some v51_6))))
      else
        some v29_6)))))
  else
    (bif (decide ((b.length : Int) > (a.length : Int))) then
      some (-1)
    else
      some 0))
def n_spec_odCmp_l6 (rf_n_spec_odCmp : List T_rI → List T_rI → Option Int)  : Nat → List T_rI → Int → List T_rI → Option Int
  | 0, _, _, _ => none
  | n + 1, a, x_k6_0, b => n_spec_odCmp_b6 rf_n_spec_odCmp  (n_spec_odCmp_l6 rf_n_spec_odCmp  n) a x_k6_0 b
theorem n_spec_odCmp_b6_ok {I : Nat → St → Prop} {rf_n_spec_odCmp : List T_rI → List T_rI → Option Int} (hrf_n_spec_odCmp : ∀ (a : List T_rI) (b : List T_rI) (r : Int), rf_n_spec_odCmp a b = some r → Sound Tryd.prog F_spec_odCmp [.v (.ag [.sl false 2 (e_rI false a)]), .v (.ag [.sl false 2 (e_rI false b)])] (.val (.int .i64 r)) [.v (.ag [.sl false 2 (e_rI false a)]), .v (.ag [.sl false 2 (e_rI false b)])])  {a_0 : List T_rI} {b_0 : List T_rI} {r : Int}  {k6 : List T_rI → Int → List T_rI → Option Int} (hI6 : ∀ (a : List T_rI) (x_k6_0 : Int) (b : List T_rI), k6 a x_k6_0 b = some r → I 1 (T_n_spec_odCmp_6 a x_k6_0 b)) {a : List T_rI} {x_k6_0 : Int} {b : List T_rI} (h : n_spec_odCmp_b6 rf_n_spec_odCmp  k6 a x_k6_0 b = some r) : wpx Tryd.prog (FC.pn (fc_n_spec_odCmp a_0 b_0 r)) c_spec_odCmp_k7 (kq Tryd.prog (fc_n_spec_odCmp a_0 b_0 r) I [.lp 1, .blk 0, .sq c_spec_odCmp_k43]) (T_n_spec_odCmp_6 a x_k6_0 b).1 (T_n_spec_odCmp_6 a x_k6_0 b).2 := by
  unfold n_spec_odCmp_b6 at h
  refine bif_elim h (fun c1 h => ?_) (fun c1 h => ?_)
  · refine bind_elim h (fun v14_6 c2 h => ?_)
    refine bif_elim h (fun c3 h => ?_) (fun c3 h => ?_)
    · cases h
      exact wayR 200 [.br c1, .row (row_ok k_rI (o := false) c2), .len (len_ok k_rI false b), .br c3, .fin0] (by kernel_rfl)
    · refine bind_elim h (fun v26_6 c4 h => ?_)
      refine bind_elim h (fun v29_6 c5 h => ?_)
      refine bif_elim h (fun c6 h => ?_) (fun c6 h => ?_)
      · refine bind_elim h (fun v38_6 c7 h => ?_)
        refine bif_elim h (fun c8 h => ?_) (fun c8 h => ?_)
        · exact wayB 200 [.br c1, .row (row_ok k_rI (o := false) c2), .len (len_ok k_rI false b), .br c3, .row (row_ok k_rI (o := false) c4), .call (hrf_n_spec_odCmp _ _ _ c5), .br (congrArg not c6), .row (row_ok k_rI (o := false) c7), .br (congrArg not c8), .stop [] (T_n_spec_odCmp_6 a (wr (x_k6_0 + 1)) b)] 1 (hI6 _ _ _ h) (by kernel_rfl)
        · refine bind_elim h (fun v47_6 c9 h => ?_)
          refine bind_elim h (fun v51_6 c10 h => ?_)
          cases h
          exact wayR 200 [.br c1, .row (row_ok k_rI (o := false) c2), .len (len_ok k_rI false b), .br c3, .row (row_ok k_rI (o := false) c4), .call (hrf_n_spec_odCmp _ _ _ c5), .br (congrArg not c6), .row (row_ok k_rI (o := false) c7), .br (congrArg not c8), .row (row_ok k_rI (o := false) c9), .call (n_spec_l1Sign_ok c10), .fin0] (by kernel_rfl)
      · cases h
        exact wayR 200 [.br c1, .row (row_ok k_rI (o := false) c2), .len (len_ok k_rI false b), .br c3, .row (row_ok k_rI (o := false) c4), .call (hrf_n_spec_odCmp _ _ _ c5), .br (congrArg not c6), .fin0] (by kernel_rfl)
  · refine bif_elim h (fun c11 h => ?_) (fun c11 h => ?_)
    · cases h
      exact wayR 200 [.br c1, .len (len_ok k_rI false b), .len (len_ok k_rI false a), .br c11, .fin0] (by kernel_rfl)
    · cases h
      exact wayR 200 [.br c1, .len (len_ok k_rI false b), .len (len_ok k_rI false a), .br c11, .fin0] (by kernel_rfl)
theorem n_spec_odCmp_l6_ok {I : Nat → St → Prop} {rf_n_spec_odCmp : List T_rI → List T_rI → Option Int} (hrf_n_spec_odCmp : ∀ (a : List T_rI) (b : List T_rI) (r : Int), rf_n_spec_odCmp a b = some r → Sound Tryd.prog F_spec_odCmp [.v (.ag [.sl false 2 (e_rI false a)]), .v (.ag [.sl false 2 (e_rI false b)])] (.val (.int .i64 r)) [.v (.ag [.sl false 2 (e_rI false a)]), .v (.ag [.sl false 2 (e_rI false b)])])  {a_0 : List T_rI} {b_0 : List T_rI} {r : Int}  : ∀ (n : Nat) (a : List T_rI) (x_k6_0 : Int) (b : List T_rI), n_spec_odCmp_l6 rf_n_spec_odCmp  n a x_k6_0 b = some r → wpx Tryd.prog (FC.pn (fc_n_spec_odCmp a_0 b_0 r)) (.loop c_spec_odCmp_k7) (kq Tryd.prog (fc_n_spec_odCmp a_0 b_0 r) I [.blk 0, .sq c_spec_odCmp_k43]) (T_n_spec_odCmp_6 a x_k6_0 b).1 (T_n_spec_odCmp_6 a x_k6_0 b).2 := by
  intro n a x_k6_0 b h
  exact loopN (fc := (fc_n_spec_odCmp a_0 b_0 r)) (I := I) (j := 1) (V := List T_rI × Int × List T_rI) (fun n v => n_spec_odCmp_l6 rf_n_spec_odCmp  n v.1 v.2.1 v.2.2) (fun v => T_n_spec_odCmp_6 v.1 v.2.1 v.2.2) r (fun v h => by simp [n_spec_odCmp_l6] at h) (fun n v h I' hne hI' => n_spec_odCmp_b6_ok hrf_n_spec_odCmp  (k6 := n_spec_odCmp_l6 rf_n_spec_odCmp  n) (fun a x_k6_0 b h => hI' (a, x_k6_0, b) h) h) (fun I' hne => kq_congr fun i hi => hne i (notIn_ne (by rfl) i hi)) n (a, x_k6_0, b) h
def n_spec_odCmp_B (rf_n_spec_odCmp : List T_rI → List T_rI → Option Int) (a : List T_rI) (b : List T_rI) : Option Int :=
  n_spec_odCmp_l6 rf_n_spec_odCmp fuel a 0 b
theorem n_spec_odCmp_B_way {I : Nat → St → Prop} {rf_n_spec_odCmp : List T_rI → List T_rI → Option Int} (hrf_n_spec_odCmp : ∀ (a : List T_rI) (b : List T_rI) (r : Int), rf_n_spec_odCmp a b = some r → Sound Tryd.prog F_spec_odCmp [.v (.ag [.sl false 2 (e_rI false a)]), .v (.ag [.sl false 2 (e_rI false b)])] (.val (.int .i64 r)) [.v (.ag [.sl false 2 (e_rI false a)]), .v (.ag [.sl false 2 (e_rI false b)])]) {a : List T_rI} {b : List T_rI} {r : Int} (h : n_spec_odCmp_B rf_n_spec_odCmp a b = some r) : wpx Tryd.prog (FC.pn (fc_n_spec_odCmp a b r)) c_spec_odCmp_k0 (kq Tryd.prog (fc_n_spec_odCmp a b r) I []) (([(0, .ag [.pu (.sl false 2 (e_rI false a))]), (1, .ag [.pu (.sl false 2 (e_rI false b))])], []) : St).1 (([(0, .ag [.pu (.sl false 2 (e_rI false a))]), (1, .ag [.pu (.sl false 2 (e_rI false b))])], []) : St).2 := by
  unfold n_spec_odCmp_B at h
  exact way 200 [.len (len_ok k_rI false a), .stop [] (T_n_spec_odCmp_6 a 0 b)] (n_spec_odCmp_l6_ok hrf_n_spec_odCmp _ _ _ _ h) (by kernel_rfl)
theorem n_spec_odCmp_B_ok {rf_n_spec_odCmp : List T_rI → List T_rI → Option Int} (hrf_n_spec_odCmp : ∀ (a : List T_rI) (b : List T_rI) (r : Int), rf_n_spec_odCmp a b = some r → Sound Tryd.prog F_spec_odCmp [.v (.ag [.sl false 2 (e_rI false a)]), .v (.ag [.sl false 2 (e_rI false b)])] (.val (.int .i64 r)) [.v (.ag [.sl false 2 (e_rI false a)]), .v (.ag [.sl false 2 (e_rI false b)])]) {a : List T_rI} {b : List T_rI} {r : Int} (h : n_spec_odCmp_B rf_n_spec_odCmp a b = some r) : Sound Tryd.prog F_spec_odCmp [.v (.ag [.sl false 2 (e_rI false a)]), .v (.ag [.sl false 2 (e_rI false b)])] (.val (.int .i64 r)) [.v (.ag [.sl false 2 (e_rI false a)]), .v (.ag [.sl false 2 (e_rI false b)])] :=
  soundX hmix ok_spec_odCmp (fc := (fc_n_spec_odCmp a b r)) rfl (S₀ := []) rfl rfl (n_spec_odCmp_B_way hrf_n_spec_odCmp h)
def n_spec_odCmp_N : Nat → List T_rI → List T_rI → Option Int
  | 0, _, _ => none
  | n + 1, a, b => n_spec_odCmp_B (n_spec_odCmp_N n) a b
theorem n_spec_odCmp_NN : ∀ n : Nat, (∀ (a : List T_rI) (b : List T_rI) (r : Int), n_spec_odCmp_N n a b = some r → Sound Tryd.prog F_spec_odCmp [.v (.ag [.sl false 2 (e_rI false a)]), .v (.ag [.sl false 2 (e_rI false b)])] (.val (.int .i64 r)) [.v (.ag [.sl false 2 (e_rI false a)]), .v (.ag [.sl false 2 (e_rI false b)])]) ∧ True := by
  intro n
  induction n with
  | zero => refine ⟨?_, ?_⟩ <;> first | trivial | (intros; rename_i h; cases h)
  | succ n ih => exact ⟨fun _ _ r h => n_spec_odCmp_B_ok ih.1 h, trivial⟩
def n_spec_odCmp (a : List T_rI) (b : List T_rI) : Option Int := n_spec_odCmp_N fuel a b
theorem n_spec_odCmp_ok {a : List T_rI} {b : List T_rI} {r : Int} (h : n_spec_odCmp a b = some r) : Sound Tryd.prog F_spec_odCmp [.v (.ag [.sl false 2 (e_rI false a)]), .v (.ag [.sl false 2 (e_rI false b)])] (.val (.int .i64 r)) [.v (.ag [.sl false 2 (e_rI false a)]), .v (.ag [.sl false 2 (e_rI false b)])] := (n_spec_odCmp_NN fuel).1 a b r h

abbrev c_spec_odForm_r0 : CC := .reg [
    ⟨(some 2), none, .box (.t 0)⟩,
    ⟨(some 4), none, .mv (.c (.bool false))⟩]
abbrev c_spec_odForm_r1 : CC := .reg [
    ⟨(some 7), none, .mv (.t 1)⟩,
    ⟨(some 8), none, .bin .lss (.t 7) (.c (.int .i64 0))⟩]
abbrev c_spec_odForm_r2 : CC := .reg [
    ⟨(some 4), none, .mv (.c (.bool false))⟩]
abbrev c_spec_odForm_k5 : CC := (.cond (.t 8) (.seq c_spec_odForm_r2 .ret) .skip)
abbrev c_spec_odForm_r3 : CC := .reg [
    ⟨(some 9), none, .fadr 0 (.t 2)⟩,
    ⟨(some 10), none, .load 1 false (.t 9)⟩,
    ⟨(some 11), none, .len false (.t 10)⟩,
    ⟨(some 12), none, .mv (.c (.int .i64 0))⟩]
abbrev c_spec_odForm_r4 : CC := .reg [
    ⟨(some 13), none, .bin .lss (.t 12) (.t 11)⟩]
abbrev c_spec_odForm_r5 : CC := .reg [
    ⟨(some 14), none, .mv (.t 12)⟩,
    ⟨(some 15), none, .iadr 2 (.t 10) (.t 12)⟩,
    ⟨(some 16), none, .load 2 true (.t 15)⟩,
    ⟨(some 6), none, .alloc [.slice none 0 0, .int .i64 0]⟩,
    ⟨(some 5), none, .mv (.t 14)⟩,
    ⟨none, none, .store 2 (.t 6) (.t 16)⟩]
abbrev c_spec_odForm_r6 : CC := .drw [
    ⟨(some 17), none, .fadr 1 (.t 6)⟩,
    ⟨(some 18), none, .load 1 false (.t 17)⟩,
    ⟨(some 19), none, .call true (.f 105) [(.t 18), (.c (.int .i64 1)), (.c (.int .i64 1000000))]⟩,
    ⟨(some 20), none, .un .not (.t 19)⟩,
    ⟨(some 21), none, .mv (.t 20)⟩,
    ⟨(some 22), (some (21, false)), .fadr 0 (.t 6)⟩,
    ⟨(some 23), (some (21, false)), .load 1 true (.t 22)⟩,
    ⟨(some 24), (some (21, false)), .mv (.t 1)⟩,
    ⟨(some 25), (some (21, false)), .bin .sub (.t 24) (.c (.int .i64 1))⟩,
    ⟨(some 26), (some (21, false)), .call true (.f 95) [(.t 23), (.t 25)]⟩,
    ⟨(some 27), (some (21, false)), .un .not (.t 26)⟩,
    ⟨(some 28), none, .pick (.t 21) (.c (.bool true)) (.t 27)⟩,
    ⟨(some 29), none, .mv (.t 28)⟩,
    ⟨(some 30), (some (29, false)), .mv (.t 5)⟩,
    ⟨(some 31), (some (29, false)), .bin .gtr (.t 30) (.c (.int .i64 0))⟩,
    ⟨(some 32), (some (29, false)), .mv (.t 31)⟩,
    ⟨(some 33), (some (32, true)), .fadr 0 (.t 2)⟩,
    ⟨(some 34), (some (32, true)), .load 1 false (.t 33)⟩,
    ⟨(some 35), (some (32, true)), .mv (.t 5)⟩,
    ⟨(some 36), (some (32, true)), .bin .sub (.t 35) (.c (.int .i64 1))⟩,
    ⟨(some 37), (some (32, true)), .iadr 2 (.t 34) (.t 36)⟩,
    ⟨(some 38), (some (32, true)), .fadr 0 (.t 37)⟩,
    ⟨(some 39), (some (32, true)), .load 1 true (.t 38)⟩,
    ⟨(some 40), (some (32, true)), .fadr 0 (.t 6)⟩,
    ⟨(some 41), (some (32, true)), .load 1 true (.t 40)⟩,
    ⟨(some 42), (some (32, true)), .call true (.f 60) [(.t 39), (.t 41)]⟩,
    ⟨(some 43), (some (32, true)), .bin .leq (.t 42) (.c (.int .i64 0))⟩,
    ⟨(some 44), (some (29, false)), .pick (.t 32) (.t 43) (.c (.bool false))⟩,
    ⟨(some 45), none, .pick (.t 29) (.c (.bool true)) (.t 44)⟩] [(5, 7), (6, 7), (5, 8), (6, 8), (16, 18), (17, 18), (16, 19), (17, 19), (16, 23), (17, 23), (18, 23), (19, 23), (20, 23), (21, 23), (22, 23), (16, 24), (17, 24), (18, 24), (19, 24), (20, 24), (21, 24), (22, 24)]
abbrev c_spec_odForm_r7 : CC := .reg [
    ⟨(some 4), none, .mv (.c (.bool false))⟩]
abbrev c_spec_odForm_k27 : CC := (.cond (.t 45) (.seq c_spec_odForm_r7 .ret) .skip)
abbrev c_spec_odForm_k25 : CC := (.seq c_spec_odForm_r6 c_spec_odForm_k27)
abbrev c_spec_odForm_r8 : CC := .reg [
    ⟨(some 46), none, .bin .add (.t 12) (.c (.int .i64 1))⟩,
    ⟨(some 12), none, .mv (.t 46)⟩]
abbrev c_spec_odForm_k21 : CC := (.seq (.block 1 (.seq c_spec_odForm_r5 c_spec_odForm_k25)) c_spec_odForm_r8)
abbrev c_spec_odForm_k17 : CC := (.seq (.cond (.t 13) .skip (.exit 0)) c_spec_odForm_k21)
abbrev c_spec_odForm_k15 : CC := (.seq c_spec_odForm_r4 c_spec_odForm_k17)
abbrev c_spec_odForm_k13 : CC := (.block 0 (.loop c_spec_odForm_k15))
abbrev c_spec_odForm_r9 : CC := .reg [
    ⟨(some 4), none, .mv (.c (.bool true))⟩]
abbrev c_spec_odForm_k33 : CC := (.seq c_spec_odForm_r9 .ret)
abbrev c_spec_odForm_k10 : CC := (.seq (.seq c_spec_odForm_r3 c_spec_odForm_k13) c_spec_odForm_k33)
abbrev c_spec_odForm_k2 : CC := (.seq (.seq c_spec_odForm_r1 c_spec_odForm_k5) c_spec_odForm_k10)
abbrev c_spec_odForm_k0 : CC := (.seq c_spec_odForm_r0 c_spec_odForm_k2)
abbrev c_spec_odForm : CF := ⟨47, [.tmp 4], c_spec_odForm_k0⟩
abbrev F_spec_odForm : Nat := 95
theorem ok_spec_odForm : compileF Tryd.prog 95 = some c_spec_odForm := by kernel_rfl
def fc_n_spec_odForm (a : List T_rI) (depth : Int) (r : Bool) : FC := ⟨[.v (.ag [.sl false 2 (e_rI false a)]), .v (.val (.int .i64 depth))], [.tmp 4], .val (.bool r), [.v (.ag [.sl false 2 (e_rI false a)]), .v (.val (.int .i64 depth))]⟩
def T_n_spec_odForm_14 (depth : Int) (a : List T_rI) (x_k14_0 : Int) : St := ([(1, .pu (.val (.int .i64 depth))), (2, .ob 2 0), (10, .pu (.sl false 2 (e_rI false a))), (11, .pu (.val (.int .i64 (a.length : Int)))), (12, .pu (.val (.int .i64 x_k14_0)))], [(2, .box [.pu (.sl false 2 (e_rI false a))])])
def n_spec_odForm_b14 (rf_n_spec_odForm : List T_rI → Int → Option Bool)  (k14 : Int → List T_rI → Int → Option Bool) (depth : Int) (a : List T_rI) (x_k14_0 : Int) : Option Bool :=
  (bif (decide (x_k14_0 < (a.length : Int))) then
    ((idx a x_k14_0).bind fun (v15_14 : T_rI) =>
    ((n_spec_l1In v15_14.c1 1 1000000).bind fun (v19_14 : Bool) =>
    (bif v19_14 then
      ((rf_n_spec_odForm v15_14.c0 (wr (depth - 1))).bind fun (v26_14 : Bool) =>
      (bif v26_14 then
        (bif (decide (x_k14_0 > 0)) then
          ((idx a (wr (x_k14_0 - 1))).bind fun (v37_14 : T_rI) =>
          ((n_spec_odCmp v37_14.c0 v15_14.c0).bind fun (v42_14 : Int) =>
          (bif (decide (v42_14 ≤ 0)) then
            some false
          else
            k14 depth a (wr (x_k14_0 + 1)))))
        else
          k14 depth a (wr (x_k14_0 + 1)))
      else
        some false))
    else
      some false)))
  else
    some true)
def n_spec_odForm_l14 (rf_n_spec_odForm : List T_rI → Int → Option Bool)  : Nat → Int → List T_rI → Int → Option Bool
  | 0, _, _, _ => none
  | n + 1, depth, a, x_k14_0 => n_spec_odForm_b14 rf_n_spec_odForm  (n_spec_odForm_l14 rf_n_spec_odForm  n) depth a x_k14_0
theorem n_spec_odForm_b14_ok {I : Nat → St → Prop} {rf_n_spec_odForm : List T_rI → Int → Option Bool} (hrf_n_spec_odForm : ∀ (a : List T_rI) (depth : Int) (r : Bool), rf_n_spec_odForm a depth = some r → Sound Tryd.prog F_spec_odForm [.v (.ag [.sl false 2 (e_rI false a)]), .v (.val (.int .i64 depth))] (.val (.bool r)) [.v (.ag [.sl false 2 (e_rI false a)]), .v (.val (.int .i64 depth))])  {a_0 : List T_rI} {depth_0 : Int} {r : Bool}  {k14 : Int → List T_rI → Int → Option Bool} (hI14 : ∀ (depth : Int) (a : List T_rI) (x_k14_0 : Int), k14 depth a x_k14_0 = some r → I 1 (T_n_spec_odForm_14 depth a x_k14_0)) {depth : Int} {a : List T_rI} {x_k14_0 : Int} (h : n_spec_odForm_b14 rf_n_spec_odForm  k14 depth a x_k14_0 = some r) : wpx Tryd.prog (FC.pn (fc_n_spec_odForm a_0 depth_0 r)) c_spec_odForm_k15 (kq Tryd.prog (fc_n_spec_odForm a_0 depth_0 r) I [.lp 1, .blk 0, .sq c_spec_odForm_k33]) (T_n_spec_odForm_14 depth a x_k14_0).1 (T_n_spec_odForm_14 depth a x_k14_0).2 := by
  unfold n_spec_odForm_b14 at h
  refine bif_elim h (fun c1 h => ?_) (fun c1 h => ?_)
  · refine bind_elim h (fun v15_14 c2 h => ?_)
    refine bind_elim h (fun v19_14 c3 h => ?_)
    refine bif_elim h (fun c4 h => ?_) (fun c4 h => ?_)
    · refine bind_elim h (fun v26_14 c5 h => ?_)
      refine bif_elim h (fun c6 h => ?_) (fun c6 h => ?_)
      · refine bif_elim h (fun c7 h => ?_) (fun c7 h => ?_)
        · refine bind_elim h (fun v37_14 c8 h => ?_)
          refine bind_elim h (fun v42_14 c9 h => ?_)
          refine bif_elim h (fun c10 h => ?_) (fun c10 h => ?_)
          · cases h
            exact wayR 200 [.br c1, .row (row_ok k_rI (o := false) c2), .call (n_spec_l1In_ok c3), .br (congrArg not c4), .br (congrArg not c4), .br (congrArg not c4), .br (congrArg not c4), .br (congrArg not c4), .call (hrf_n_spec_odForm _ _ _ c5), .br (congrArg not c4), .br (congrArg not c4), .br (congrArg not c6), .br (congrArg not c6), .br (congrArg not c6), .br c7, .br c7, .br c7, .br c7, .br c7, .row (row_ok k_rI (o := false) c8), .br c7, .br c7, .br c7, .br c7, .br c7, .call (n_spec_odCmp_ok c9), .br c7, .br (congrArg not c6), .br c7, .br (congrArg not c6), .br c10, .fin0] (by kernel_rfl)
          · exact wayB 200 [.br c1, .row (row_ok k_rI (o := false) c2), .call (n_spec_l1In_ok c3), .br (congrArg not c4), .br (congrArg not c4), .br (congrArg not c4), .br (congrArg not c4), .br (congrArg not c4), .call (hrf_n_spec_odForm _ _ _ c5), .br (congrArg not c4), .br (congrArg not c4), .br (congrArg not c6), .br (congrArg not c6), .br (congrArg not c6), .br c7, .br c7, .br c7, .br c7, .br c7, .row (row_ok k_rI (o := false) c8), .br c7, .br c7, .br c7, .br c7, .br c7, .call (n_spec_odCmp_ok c9), .br c7, .br (congrArg not c6), .br c7, .br (congrArg not c6), .br c10, .stop [] (T_n_spec_odForm_14 depth a (wr (x_k14_0 + 1)))] 1 (hI14 _ _ _ h) (by kernel_rfl)
        · exact wayB 200 [.br c1, .row (row_ok k_rI (o := false) c2), .call (n_spec_l1In_ok c3), .br (congrArg not c4), .br (congrArg not c4), .br (congrArg not c4), .br (congrArg not c4), .br (congrArg not c4), .call (hrf_n_spec_odForm _ _ _ c5), .br (congrArg not c4), .br (congrArg not c4), .br (congrArg not c6), .br (congrArg not c6), .br (congrArg not c6), .br c7, .br c7, .br c7, .br c7, .br c7, .br c7, .br c7, .br c7, .br c7, .br c7, .br c7, .br (congrArg not c6), .br c7, .br (congrArg not c6), .lit false, .stop [] (T_n_spec_odForm_14 depth a (wr (x_k14_0 + 1)))] 1 (hI14 _ _ _ h) (by kernel_rfl)
      · cases h
        exact wayR 200 [.br c1, .row (row_ok k_rI (o := false) c2), .call (n_spec_l1In_ok c3), .br (congrArg not c4), .br (congrArg not c4), .br (congrArg not c4), .br (congrArg not c4), .br (congrArg not c4), .call (hrf_n_spec_odForm _ _ _ c5), .br (congrArg not c4), .br (congrArg not c4), .br (congrArg not c6), .br (congrArg not c6), .br (congrArg not c6), .br (congrArg not c6), .br (congrArg not c6), .lit true, .fin0] (by kernel_rfl)
    · cases h
      exact wayR 200 [.br c1, .row (row_ok k_rI (o := false) c2), .call (n_spec_l1In_ok c3), .br (congrArg not c4), .br (congrArg not c4), .br (congrArg not c4), .br (congrArg not c4), .br (congrArg not c4), .br (congrArg not c4), .br (congrArg not c4), .lit true, .lit true, .lit true, .lit true, .lit true, .lit true, .fin0] (by kernel_rfl)
  · cases h
    exact wayR 200 [.br c1, .fin0] (by kernel_rfl)
theorem n_spec_odForm_l14_ok {I : Nat → St → Prop} {rf_n_spec_odForm : List T_rI → Int → Option Bool} (hrf_n_spec_odForm : ∀ (a : List T_rI) (depth : Int) (r : Bool), rf_n_spec_odForm a depth = some r → Sound Tryd.prog F_spec_odForm [.v (.ag [.sl false 2 (e_rI false a)]), .v (.val (.int .i64 depth))] (.val (.bool r)) [.v (.ag [.sl false 2 (e_rI false a)]), .v (.val (.int .i64 depth))])  {a_0 : List T_rI} {depth_0 : Int} {r : Bool}  : ∀ (n : Nat) (depth : Int) (a : List T_rI) (x_k14_0 : Int), n_spec_odForm_l14 rf_n_spec_odForm  n depth a x_k14_0 = some r → wpx Tryd.prog (FC.pn (fc_n_spec_odForm a_0 depth_0 r)) (.loop c_spec_odForm_k15) (kq Tryd.prog (fc_n_spec_odForm a_0 depth_0 r) I [.blk 0, .sq c_spec_odForm_k33]) (T_n_spec_odForm_14 depth a x_k14_0).1 (T_n_spec_odForm_14 depth a x_k14_0).2 := by
  intro n depth a x_k14_0 h
  exact loopN (fc := (fc_n_spec_odForm a_0 depth_0 r)) (I := I) (j := 1) (V := Int × List T_rI × Int) (fun n v => n_spec_odForm_l14 rf_n_spec_odForm  n v.1 v.2.1 v.2.2) (fun v => T_n_spec_odForm_14 v.1 v.2.1 v.2.2) r (fun v h => by simp [n_spec_odForm_l14] at h) (fun n v h I' hne hI' => n_spec_odForm_b14_ok hrf_n_spec_odForm  (k14 := n_spec_odForm_l14 rf_n_spec_odForm  n) (fun depth a x_k14_0 h => hI' (depth, a, x_k14_0) h) h) (fun I' hne => kq_congr fun i hi => hne i (notIn_ne (by rfl) i hi)) n (depth, a, x_k14_0) h
def n_spec_odForm_B (rf_n_spec_odForm : List T_rI → Int → Option Bool) (a : List T_rI) (depth : Int) : Option Bool :=
  (bif (decide (depth < 0)) then
    some false
  else
    n_spec_odForm_l14 rf_n_spec_odForm fuel depth a 0)
theorem n_spec_odForm_B_way {I : Nat → St → Prop} {rf_n_spec_odForm : List T_rI → Int → Option Bool} (hrf_n_spec_odForm : ∀ (a : List T_rI) (depth : Int) (r : Bool), rf_n_spec_odForm a depth = some r → Sound Tryd.prog F_spec_odForm [.v (.ag [.sl false 2 (e_rI false a)]), .v (.val (.int .i64 depth))] (.val (.bool r)) [.v (.ag [.sl false 2 (e_rI false a)]), .v (.val (.int .i64 depth))]) {a : List T_rI} {depth : Int} {r : Bool} (h : n_spec_odForm_B rf_n_spec_odForm a depth = some r) : wpx Tryd.prog (FC.pn (fc_n_spec_odForm a depth r)) c_spec_odForm_k0 (kq Tryd.prog (fc_n_spec_odForm a depth r) I []) (([(0, .ag [.pu (.sl false 2 (e_rI false a))]), (1, .pu (.val (.int .i64 depth)))], []) : St).1 (([(0, .ag [.pu (.sl false 2 (e_rI false a))]), (1, .pu (.val (.int .i64 depth)))], []) : St).2 := by
  unfold n_spec_odForm_B at h
  refine bif_elim h (fun c1 h => ?_) (fun c1 h => ?_)
  · cases h
    exact wayR 200 [.br c1, .fin0] (by kernel_rfl)
  · exact way 200 [.br c1, .len (len_ok k_rI false a), .stop [] (T_n_spec_odForm_14 depth a 0)] (n_spec_odForm_l14_ok hrf_n_spec_odForm _ _ _ _ h) (by kernel_rfl)
theorem n_spec_odForm_B_ok {rf_n_spec_odForm : List T_rI → Int → Option Bool} (hrf_n_spec_odForm : ∀ (a : List T_rI) (depth : Int) (r : Bool), rf_n_spec_odForm a depth = some r → Sound Tryd.prog F_spec_odForm [.v (.ag [.sl false 2 (e_rI false a)]), .v (.val (.int .i64 depth))] (.val (.bool r)) [.v (.ag [.sl false 2 (e_rI false a)]), .v (.val (.int .i64 depth))]) {a : List T_rI} {depth : Int} {r : Bool} (h : n_spec_odForm_B rf_n_spec_odForm a depth = some r) : Sound Tryd.prog F_spec_odForm [.v (.ag [.sl false 2 (e_rI false a)]), .v (.val (.int .i64 depth))] (.val (.bool r)) [.v (.ag [.sl false 2 (e_rI false a)]), .v (.val (.int .i64 depth))] :=
  soundX hmix ok_spec_odForm (fc := (fc_n_spec_odForm a depth r)) rfl (S₀ := []) rfl rfl (n_spec_odForm_B_way hrf_n_spec_odForm h)
def n_spec_odForm_N : Nat → List T_rI → Int → Option Bool
  | 0, _, _ => none
  | n + 1, a, depth => n_spec_odForm_B (n_spec_odForm_N n) a depth
theorem n_spec_odForm_NN : ∀ n : Nat, (∀ (a : List T_rI) (depth : Int) (r : Bool), n_spec_odForm_N n a depth = some r → Sound Tryd.prog F_spec_odForm [.v (.ag [.sl false 2 (e_rI false a)]), .v (.val (.int .i64 depth))] (.val (.bool r)) [.v (.ag [.sl false 2 (e_rI false a)]), .v (.val (.int .i64 depth))]) ∧ True := by
  intro n
  induction n with
  | zero => refine ⟨?_, ?_⟩ <;> first | trivial | (intros; rename_i h; cases h)
  | succ n ih => exact ⟨fun _ _ r h => n_spec_odForm_B_ok ih.1 h, trivial⟩
def n_spec_odForm (a : List T_rI) (depth : Int) : Option Bool := n_spec_odForm_N fuel a depth
theorem n_spec_odForm_ok {a : List T_rI} {depth : Int} {r : Bool} (h : n_spec_odForm a depth = some r) : Sound Tryd.prog F_spec_odForm [.v (.ag [.sl false 2 (e_rI false a)]), .v (.val (.int .i64 depth))] (.val (.bool r)) [.v (.ag [.sl false 2 (e_rI false a)]), .v (.val (.int .i64 depth))] := (n_spec_odForm_NN fuel).1 a depth r h

abbrev c_spec_odLeft_r0 : CC := .reg [
    ⟨(some 3), none, .box (.t 0)⟩,
    ⟨(some 6), none, .mv (.c (.int .i64 0))⟩]
abbrev c_spec_odLeft_r1 : CC := .reg [
    ⟨(some 9), none, .mv (.t 2)⟩,
    ⟨(some 10), none, .bin .sub (.t 9) (.c (.int .i64 1))⟩,
    ⟨(some 2), none, .mv (.t 10)⟩]
abbrev c_spec_odLeft_r2 : CC := .reg [
    ⟨(some 11), none, .fadr 0 (.t 3)⟩,
    ⟨(some 12), none, .load 1 false (.t 11)⟩,
    ⟨(some 13), none, .len false (.t 12)⟩,
    ⟨(some 14), none, .mv (.c (.int .i64 0))⟩]
abbrev c_spec_odLeft_r3 : CC := .reg [
    ⟨(some 15), none, .bin .lss (.t 14) (.t 13)⟩]
abbrev c_spec_odLeft_r4 : CC := .reg [
    ⟨(some 16), none, .iadr 2 (.t 12) (.t 14)⟩,
    ⟨(some 17), none, .load 2 true (.t 16)⟩,
    ⟨(some 8), none, .alloc [.slice none 0 0, .int .i64 0]⟩,
    ⟨none, none, .store 2 (.t 8) (.t 17)⟩]
abbrev c_spec_odLeft_r5 : CC := .reg [
    ⟨(some 18), none, .mv (.t 2)⟩,
    ⟨(some 19), none, .bin .lss (.t 18) (.c (.int .i64 0))⟩,
    ⟨(some 20), none, .mv (.t 19)⟩,
    ⟨(some 21), (some (20, false)), .mv (.t 1)⟩,
    ⟨(some 22), (some (20, false)), .bin .eql (.t 21) (.c (.int .i64 0))⟩,
    ⟨(some 23), none, .pick (.t 20) (.c (.bool true)) (.t 22)⟩]
abbrev c_spec_odLeft_r6 : CC := .reg [
    ⟨(some 6), none, .mv (.c (.int .i64 (-1)))⟩]
abbrev c_spec_odLeft_k22 : CC := (.cond (.t 23) (.seq c_spec_odLeft_r6 .ret) .skip)
abbrev c_spec_odLeft_r7 : CC := .reg [
    ⟨(some 24), none, .fadr 0 (.t 8)⟩,
    ⟨(some 25), none, .load 1 true (.t 24)⟩,
    ⟨(some 26), none, .mv (.t 1)⟩,
    ⟨(some 27), none, .bin .sub (.t 26) (.c (.int .i64 1))⟩,
    ⟨(some 28), none, .mv (.t 2)⟩,
    ⟨(some 29), none, .bin .sub (.t 28) (.c (.int .i64 1))⟩,
    ⟨(some 30), none, .call true (.f 94) [(.t 25), (.t 27), (.t 29)]⟩,
    ⟨(some 2), none, .mv (.t 30)⟩]
abbrev c_spec_odLeft_k19 : CC := (.seq (.seq c_spec_odLeft_r5 c_spec_odLeft_k22) c_spec_odLeft_r7)
abbrev c_spec_odLeft_r8 : CC := .reg [
    ⟨(some 31), none, .bin .add (.t 14) (.c (.int .i64 1))⟩,
    ⟨(some 14), none, .mv (.t 31)⟩]
abbrev c_spec_odLeft_k15 : CC := (.seq (.block 1 (.seq c_spec_odLeft_r4 c_spec_odLeft_k19)) c_spec_odLeft_r8)
abbrev c_spec_odLeft_k11 : CC := (.seq (.cond (.t 15) .skip (.exit 0)) c_spec_odLeft_k15)
abbrev c_spec_odLeft_k9 : CC := (.seq c_spec_odLeft_r3 c_spec_odLeft_k11)
abbrev c_spec_odLeft_k7 : CC := (.block 0 (.loop c_spec_odLeft_k9))
abbrev c_spec_odLeft_r9 : CC := .reg [
    ⟨(some 32), none, .mv (.t 2)⟩,
    ⟨(some 6), none, .mv (.t 32)⟩]
abbrev c_spec_odLeft_k29 : CC := (.seq c_spec_odLeft_r9 .ret)
abbrev c_spec_odLeft_k4 : CC := (.seq (.seq c_spec_odLeft_r2 c_spec_odLeft_k7) c_spec_odLeft_k29)
abbrev c_spec_odLeft_k2 : CC := (.seq c_spec_odLeft_r1 c_spec_odLeft_k4)
abbrev c_spec_odLeft_k0 : CC := (.seq c_spec_odLeft_r0 c_spec_odLeft_k2)
abbrev c_spec_odLeft : CF := ⟨33, [.tmp 6], c_spec_odLeft_k0⟩
abbrev F_spec_odLeft : Nat := 94
theorem ok_spec_odLeft : compileF Tryd.prog 94 = some c_spec_odLeft := by kernel_rfl
def fc_n_spec_odLeft (a : List T_rI) (depth : Int) (left : Int) (r : Int) : FC := ⟨[.v (.ag [.sl false 2 (e_rI false a)]), .v (.val (.int .i64 depth)), .v (.val (.int .i64 left))], [.tmp 6], .val (.int .i64 r), [.v (.ag [.sl false 2 (e_rI false a)]), .v (.val (.int .i64 depth)), .v (.val (.int .i64 left))]⟩
def T_n_spec_odLeft_27 (depth : Int) (left_k27_0 : Int) (a : List T_rI) (x_k27_1 : Int) (v16_8 : T_rI) : St := ([(1, .pu (.val (.int .i64 depth))), (2, .pu (.val (.int .i64 left_k27_0))), (8, .ob 8 0), (12, .pu (.sl false 2 (e_rI false a))), (13, .pu (.val (.int .i64 (a.length : Int)))), (14, .pu (.val (.int .i64 x_k27_1)))], [(8, .box [.pu (.sl false 2 (e_rI false v16_8.c0)), .pu (.val (.int .i64 v16_8.c1))])])
def T_n_spec_odLeft_8 (depth : Int) (left_k8_0 : Int) (a : List T_rI) (x_k8_1 : Int) : St := ([(1, .pu (.val (.int .i64 depth))), (2, .pu (.val (.int .i64 left_k8_0))), (12, .pu (.sl false 2 (e_rI false a))), (13, .pu (.val (.int .i64 (a.length : Int)))), (14, .pu (.val (.int .i64 x_k8_1)))], [])
def n_spec_odLeft_j27 (rf_n_spec_odLeft : List T_rI → Int → Int → Option Int) (k8 : Int → Int → List T_rI → Int → Option Int) (depth : Int) (left_k27_0 : Int) (a : List T_rI) (x_k27_1 : Int) (v16_8 : T_rI) : Option Int :=
  ((rf_n_spec_odLeft v16_8.c0 (wr (depth - 1)) (wr (left_k27_0 - 1))).bind fun (v30_27 : Int) =>
  k8 depth v30_27 a (wr (x_k27_1 + 1)))
theorem n_spec_odLeft_j27_ok {I : Nat → St → Prop} {rf_n_spec_odLeft : List T_rI → Int → Int → Option Int} (hrf_n_spec_odLeft : ∀ (a : List T_rI) (depth : Int) (left : Int) (r : Int), rf_n_spec_odLeft a depth left = some r → Sound Tryd.prog F_spec_odLeft [.v (.ag [.sl false 2 (e_rI false a)]), .v (.val (.int .i64 depth)), .v (.val (.int .i64 left))] (.val (.int .i64 r)) [.v (.ag [.sl false 2 (e_rI false a)]), .v (.val (.int .i64 depth)), .v (.val (.int .i64 left))]) {k8 : Int → Int → List T_rI → Int → Option Int} {a_0 : List T_rI} {depth_0 : Int} {left : Int} {r : Int} (hI8 : ∀ (depth : Int) (left_k8_0 : Int) (a : List T_rI) (x_k8_1 : Int), k8 depth left_k8_0 a x_k8_1 = some r → I 1 (T_n_spec_odLeft_8 depth left_k8_0 a x_k8_1)) {depth : Int} {left_k27_0 : Int} {a : List T_rI} {x_k27_1 : Int} {v16_8 : T_rI} (h : n_spec_odLeft_j27 rf_n_spec_odLeft k8 depth left_k27_0 a x_k27_1 v16_8 = some r) : wpx Tryd.prog (FC.pn (fc_n_spec_odLeft a_0 depth_0 left r)) c_spec_odLeft_r7 (kq Tryd.prog (fc_n_spec_odLeft a_0 depth_0 left r) I [.blk 1, .sq c_spec_odLeft_r8, .lp 1, .blk 0, .sq c_spec_odLeft_k29]) (T_n_spec_odLeft_27 depth left_k27_0 a x_k27_1 v16_8).1 (T_n_spec_odLeft_27 depth left_k27_0 a x_k27_1 v16_8).2 := by
  unfold n_spec_odLeft_j27 at h
  refine bind_elim h (fun v30_27 c1 h => ?_)
  exact wayB 200 [.call (hrf_n_spec_odLeft _ _ _ _ c1), .stop [] (T_n_spec_odLeft_8 depth v30_27 a (wr (x_k27_1 + 1)))] 1 (hI8 _ _ _ _ h) (by kernel_rfl)
def n_spec_odLeft_b8 (rf_n_spec_odLeft : List T_rI → Int → Int → Option Int)  (k8 : Int → Int → List T_rI → Int → Option Int) (depth : Int) (left_k8_0 : Int) (a : List T_rI) (x_k8_1 : Int) : Option Int :=
  (bif (decide (x_k8_1 < (a.length : Int))) then
    ((idx a x_k8_1).bind fun (v16_8 : T_rI) =>
    (bif (decide (left_k8_0 < 0)) then
      some (-1)
    else
      (bif (decide (depth = 0)) then
        some (-1)
      else
        n_spec_odLeft_j27 rf_n_spec_odLeft k8 depth left_k8_0 a x_k8_1 v16_8)))
  else
    some left_k8_0)
def n_spec_odLeft_l8 (rf_n_spec_odLeft : List T_rI → Int → Int → Option Int)  : Nat → Int → Int → List T_rI → Int → Option Int
  | 0, _, _, _, _ => none
  | n + 1, depth, left_k8_0, a, x_k8_1 => n_spec_odLeft_b8 rf_n_spec_odLeft  (n_spec_odLeft_l8 rf_n_spec_odLeft  n) depth left_k8_0 a x_k8_1
theorem n_spec_odLeft_b8_ok {I : Nat → St → Prop} {rf_n_spec_odLeft : List T_rI → Int → Int → Option Int} (hrf_n_spec_odLeft : ∀ (a : List T_rI) (depth : Int) (left : Int) (r : Int), rf_n_spec_odLeft a depth left = some r → Sound Tryd.prog F_spec_odLeft [.v (.ag [.sl false 2 (e_rI false a)]), .v (.val (.int .i64 depth)), .v (.val (.int .i64 left))] (.val (.int .i64 r)) [.v (.ag [.sl false 2 (e_rI false a)]), .v (.val (.int .i64 depth)), .v (.val (.int .i64 left))])  {a_0 : List T_rI} {depth_0 : Int} {left : Int} {r : Int}  {k8 : Int → Int → List T_rI → Int → Option Int} (hI8 : ∀ (depth : Int) (left_k8_0 : Int) (a : List T_rI) (x_k8_1 : Int), k8 depth left_k8_0 a x_k8_1 = some r → I 1 (T_n_spec_odLeft_8 depth left_k8_0 a x_k8_1)) {depth : Int} {left_k8_0 : Int} {a : List T_rI} {x_k8_1 : Int} (h : n_spec_odLeft_b8 rf_n_spec_odLeft  k8 depth left_k8_0 a x_k8_1 = some r) : wpx Tryd.prog (FC.pn (fc_n_spec_odLeft a_0 depth_0 left r)) c_spec_odLeft_k9 (kq Tryd.prog (fc_n_spec_odLeft a_0 depth_0 left r) I [.lp 1, .blk 0, .sq c_spec_odLeft_k29]) (T_n_spec_odLeft_8 depth left_k8_0 a x_k8_1).1 (T_n_spec_odLeft_8 depth left_k8_0 a x_k8_1).2 := by
  unfold n_spec_odLeft_b8 at h
  refine bif_elim h (fun c1 h => ?_) (fun c1 h => ?_)
  · refine bind_elim h (fun v16_8 c2 h => ?_)
    refine bif_elim h (fun c3 h => ?_) (fun c3 h => ?_)
    · cases h
      exact wayR 200 [.br c1, .row (row_ok k_rI (o := false) c2), .br c3, .br c3, .br c3, .lit true, .fin0] (by kernel_rfl)
    · refine bif_elim h (fun c4 h => ?_) (fun c4 h => ?_)
      · cases h
        exact wayR 200 [.br c1, .row (row_ok k_rI (o := false) c2), .br c3, .br c3, .br c3, .br c4, .fin0] (by kernel_rfl)
      · exact way 200 [.br c1, .row (row_ok k_rI (o := false) c2), .br c3, .br c3, .br c3, .br c4, .pass 1, .cut [] (T_n_spec_odLeft_27 depth left_k8_0 a x_k8_1 v16_8)] (n_spec_odLeft_j27_ok hrf_n_spec_odLeft hI8 h) (by kernel_rfl)
  · cases h
    exact wayR 200 [.br c1, .fin0] (by kernel_rfl)
theorem n_spec_odLeft_l8_ok {I : Nat → St → Prop} {rf_n_spec_odLeft : List T_rI → Int → Int → Option Int} (hrf_n_spec_odLeft : ∀ (a : List T_rI) (depth : Int) (left : Int) (r : Int), rf_n_spec_odLeft a depth left = some r → Sound Tryd.prog F_spec_odLeft [.v (.ag [.sl false 2 (e_rI false a)]), .v (.val (.int .i64 depth)), .v (.val (.int .i64 left))] (.val (.int .i64 r)) [.v (.ag [.sl false 2 (e_rI false a)]), .v (.val (.int .i64 depth)), .v (.val (.int .i64 left))])  {a_0 : List T_rI} {depth_0 : Int} {left : Int} {r : Int}  : ∀ (n : Nat) (depth : Int) (left_k8_0 : Int) (a : List T_rI) (x_k8_1 : Int), n_spec_odLeft_l8 rf_n_spec_odLeft  n depth left_k8_0 a x_k8_1 = some r → wpx Tryd.prog (FC.pn (fc_n_spec_odLeft a_0 depth_0 left r)) (.loop c_spec_odLeft_k9) (kq Tryd.prog (fc_n_spec_odLeft a_0 depth_0 left r) I [.blk 0, .sq c_spec_odLeft_k29]) (T_n_spec_odLeft_8 depth left_k8_0 a x_k8_1).1 (T_n_spec_odLeft_8 depth left_k8_0 a x_k8_1).2 := by
  intro n depth left_k8_0 a x_k8_1 h
  exact loopN (fc := (fc_n_spec_odLeft a_0 depth_0 left r)) (I := I) (j := 1) (V := Int × Int × List T_rI × Int) (fun n v => n_spec_odLeft_l8 rf_n_spec_odLeft  n v.1 v.2.1 v.2.2.1 v.2.2.2) (fun v => T_n_spec_odLeft_8 v.1 v.2.1 v.2.2.1 v.2.2.2) r (fun v h => by simp [n_spec_odLeft_l8] at h) (fun n v h I' hne hI' => n_spec_odLeft_b8_ok hrf_n_spec_odLeft  (k8 := n_spec_odLeft_l8 rf_n_spec_odLeft  n) (fun depth left_k8_0 a x_k8_1 h => hI' (depth, left_k8_0, a, x_k8_1) h) h) (fun I' hne => kq_congr fun i hi => hne i (notIn_ne (by rfl) i hi)) n (depth, left_k8_0, a, x_k8_1) h
def n_spec_odLeft_B (rf_n_spec_odLeft : List T_rI → Int → Int → Option Int) (a : List T_rI) (depth : Int) (left : Int) : Option Int :=
  n_spec_odLeft_l8 rf_n_spec_odLeft fuel depth (wr (left - 1)) a 0
theorem n_spec_odLeft_B_way {I : Nat → St → Prop} {rf_n_spec_odLeft : List T_rI → Int → Int → Option Int} (hrf_n_spec_odLeft : ∀ (a : List T_rI) (depth : Int) (left : Int) (r : Int), rf_n_spec_odLeft a depth left = some r → Sound Tryd.prog F_spec_odLeft [.v (.ag [.sl false 2 (e_rI false a)]), .v (.val (.int .i64 depth)), .v (.val (.int .i64 left))] (.val (.int .i64 r)) [.v (.ag [.sl false 2 (e_rI false a)]), .v (.val (.int .i64 depth)), .v (.val (.int .i64 left))]) {a : List T_rI} {depth : Int} {left : Int} {r : Int} (h : n_spec_odLeft_B rf_n_spec_odLeft a depth left = some r) : wpx Tryd.prog (FC.pn (fc_n_spec_odLeft a depth left r)) c_spec_odLeft_k0 (kq Tryd.prog (fc_n_spec_odLeft a depth left r) I []) (([(0, .ag [.pu (.sl false 2 (e_rI false a))]), (1, .pu (.val (.int .i64 depth))), (2, .pu (.val (.int .i64 left)))], []) : St).1 (([(0, .ag [.pu (.sl false 2 (e_rI false a))]), (1, .pu (.val (.int .i64 depth))), (2, .pu (.val (.int .i64 left)))], []) : St).2 := by
  unfold n_spec_odLeft_B at h
  exact way 200 [.len (len_ok k_rI false a), .stop [] (T_n_spec_odLeft_8 depth (wr (left - 1)) a 0)] (n_spec_odLeft_l8_ok hrf_n_spec_odLeft _ _ _ _ _ h) (by kernel_rfl)
theorem n_spec_odLeft_B_ok {rf_n_spec_odLeft : List T_rI → Int → Int → Option Int} (hrf_n_spec_odLeft : ∀ (a : List T_rI) (depth : Int) (left : Int) (r : Int), rf_n_spec_odLeft a depth left = some r → Sound Tryd.prog F_spec_odLeft [.v (.ag [.sl false 2 (e_rI false a)]), .v (.val (.int .i64 depth)), .v (.val (.int .i64 left))] (.val (.int .i64 r)) [.v (.ag [.sl false 2 (e_rI false a)]), .v (.val (.int .i64 depth)), .v (.val (.int .i64 left))]) {a : List T_rI} {depth : Int} {left : Int} {r : Int} (h : n_spec_odLeft_B rf_n_spec_odLeft a depth left = some r) : Sound Tryd.prog F_spec_odLeft [.v (.ag [.sl false 2 (e_rI false a)]), .v (.val (.int .i64 depth)), .v (.val (.int .i64 left))] (.val (.int .i64 r)) [.v (.ag [.sl false 2 (e_rI false a)]), .v (.val (.int .i64 depth)), .v (.val (.int .i64 left))] :=
  soundX hmix ok_spec_odLeft (fc := (fc_n_spec_odLeft a depth left r)) rfl (S₀ := []) rfl rfl (n_spec_odLeft_B_way hrf_n_spec_odLeft h)
def n_spec_odLeft_N : Nat → List T_rI → Int → Int → Option Int
  | 0, _, _, _ => none
  | n + 1, a, depth, left => n_spec_odLeft_B (n_spec_odLeft_N n) a depth left
theorem n_spec_odLeft_NN : ∀ n : Nat, (∀ (a : List T_rI) (depth : Int) (left : Int) (r : Int), n_spec_odLeft_N n a depth left = some r → Sound Tryd.prog F_spec_odLeft [.v (.ag [.sl false 2 (e_rI false a)]), .v (.val (.int .i64 depth)), .v (.val (.int .i64 left))] (.val (.int .i64 r)) [.v (.ag [.sl false 2 (e_rI false a)]), .v (.val (.int .i64 depth)), .v (.val (.int .i64 left))]) ∧ True := by
  intro n
  induction n with
  | zero => refine ⟨?_, ?_⟩ <;> first | trivial | (intros; rename_i h; cases h)
  | succ n ih => exact ⟨fun _ _ _ r h => n_spec_odLeft_B_ok ih.1 h, trivial⟩
def n_spec_odLeft (a : List T_rI) (depth : Int) (left : Int) : Option Int := n_spec_odLeft_N fuel a depth left
theorem n_spec_odLeft_ok {a : List T_rI} {depth : Int} {left : Int} {r : Int} (h : n_spec_odLeft a depth left = some r) : Sound Tryd.prog F_spec_odLeft [.v (.ag [.sl false 2 (e_rI false a)]), .v (.val (.int .i64 depth)), .v (.val (.int .i64 left))] (.val (.int .i64 r)) [.v (.ag [.sl false 2 (e_rI false a)]), .v (.val (.int .i64 depth)), .v (.val (.int .i64 left))] := (n_spec_odLeft_NN fuel).1 a depth left r h

abbrev c_spec_odGood_r0 : CC := .reg [
    ⟨(some 1), none, .box (.t 0)⟩,
    ⟨(some 2), none, .mv (.c (.bool false))⟩]
abbrev c_spec_odGood_r1 : CC := .reg [
    ⟨(some 3), none, .load 1 true (.t 1)⟩,
    ⟨(some 4), none, .call true (.f 94) [(.t 3), (.c (.int .i64 6)), (.c (.int .i64 60))]⟩,
    ⟨(some 5), none, .bin .geq (.t 4) (.c (.int .i64 0))⟩,
    ⟨(some 6), none, .mv (.t 5)⟩,
    ⟨(some 7), (some (6, true)), .load 1 true (.t 1)⟩,
    ⟨(some 8), (some (6, true)), .call true (.f 95) [(.t 7), (.c (.int .i64 6))]⟩,
    ⟨(some 9), none, .pick (.t 6) (.t 8) (.c (.bool false))⟩,
    ⟨(some 2), none, .mv (.t 9)⟩]
abbrev c_spec_odGood_k2 : CC := (.seq c_spec_odGood_r1 .ret)
abbrev c_spec_odGood_k0 : CC := (.seq c_spec_odGood_r0 c_spec_odGood_k2)
abbrev c_spec_odGood : CF := ⟨10, [.tmp 2], c_spec_odGood_k0⟩
abbrev F_spec_odGood : Nat := 56
theorem ok_spec_odGood : compileF Tryd.prog 56 = some c_spec_odGood := by kernel_rfl
def fc_n_spec_odGood (a : List T_rI) (r : Bool) : FC := ⟨[.v (.ag [.sl false 2 (e_rI false a)])], [.tmp 2], .val (.bool r), [.v (.ag [.sl false 2 (e_rI false a)])]⟩
def n_spec_odGood  (a : List T_rI) : Option Bool :=
  ((n_spec_odLeft a 6 60).bind fun (v4_0 : Int) =>
  (bif (decide (v4_0 ≥ 0)) then
    ((n_spec_odForm a 6).bind fun (v8_0 : Bool) =>
    some v8_0)
  else
    some false))
theorem n_spec_odGood_way {I : Nat → St → Prop}   {a : List T_rI} {r : Bool} (h : n_spec_odGood  a = some r) : wpx Tryd.prog (FC.pn (fc_n_spec_odGood a r)) c_spec_odGood_k0 (kq Tryd.prog (fc_n_spec_odGood a r) I []) (([(0, .ag [.pu (.sl false 2 (e_rI false a))])], []) : St).1 (([(0, .ag [.pu (.sl false 2 (e_rI false a))])], []) : St).2 := by
  unfold n_spec_odGood at h
  refine bind_elim h (fun v4_0 c1 h => ?_)
  refine bif_elim h (fun c2 h => ?_) (fun c2 h => ?_)
  · refine bind_elim h (fun v8_0 c3 h => ?_)
    cases h
    exact wayR 200 [.call (n_spec_odLeft_ok c1), .br c2, .br c2, .call (n_spec_odForm_ok c3), .br c2, .fin0] (by kernel_rfl)
  · cases h
    exact wayR 200 [.call (n_spec_odLeft_ok c1), .br c2, .br c2, .br c2, .fin0] (by kernel_rfl)
theorem n_spec_odGood_ok   {a : List T_rI} {r : Bool} (h : n_spec_odGood  a = some r) : Sound Tryd.prog F_spec_odGood [.v (.ag [.sl false 2 (e_rI false a)])] (.val (.bool r)) [.v (.ag [.sl false 2 (e_rI false a)])] :=
  soundX hmix ok_spec_odGood (fc := (fc_n_spec_odGood a r)) rfl (S₀ := []) rfl rfl (n_spec_odGood_way  h)

abbrev c_spec_odZero_r0 : CC := .reg [
    ⟨(some 1), none, .box (.t 0)⟩,
    ⟨(some 2), none, .mv (.c (.bool false))⟩]
abbrev c_spec_odZero_r1 : CC := .reg [
    ⟨(some 3), none, .fadr 0 (.t 1)⟩,
    ⟨(some 4), none, .load 1 false (.t 3)⟩,
    ⟨(some 5), none, .len false (.t 4)⟩,
    ⟨(some 6), none, .bin .eql (.t 5) (.c (.int .i64 0))⟩,
    ⟨(some 2), none, .mv (.t 6)⟩]
abbrev c_spec_odZero_k2 : CC := (.seq c_spec_odZero_r1 .ret)
abbrev c_spec_odZero_k0 : CC := (.seq c_spec_odZero_r0 c_spec_odZero_k2)
abbrev c_spec_odZero : CF := ⟨7, [.tmp 2], c_spec_odZero_k0⟩
abbrev F_spec_odZero : Nat := 57
theorem ok_spec_odZero : compileF Tryd.prog 57 = some c_spec_odZero := by kernel_rfl
def fc_n_spec_odZero (a : List T_rI) (r : Bool) : FC := ⟨[.v (.ag [.sl false 2 (e_rI false a)])], [.tmp 2], .val (.bool r), [.v (.ag [.sl false 2 (e_rI false a)])]⟩
def n_spec_odZero  (a : List T_rI) : Option Bool :=
  some (decide ((a.length : Int) = 0))
theorem n_spec_odZero_way {I : Nat → St → Prop}   {a : List T_rI} {r : Bool} (h : n_spec_odZero  a = some r) : wpx Tryd.prog (FC.pn (fc_n_spec_odZero a r)) c_spec_odZero_k0 (kq Tryd.prog (fc_n_spec_odZero a r) I []) (([(0, .ag [.pu (.sl false 2 (e_rI false a))])], []) : St).1 (([(0, .ag [.pu (.sl false 2 (e_rI false a))])], []) : St).2 := by
  unfold n_spec_odZero at h
  cases h
  exact wayR 200 [.len (len_ok k_rI false a), .fin0] (by kernel_rfl)
theorem n_spec_odZero_ok   {a : List T_rI} {r : Bool} (h : n_spec_odZero  a = some r) : Sound Tryd.prog F_spec_odZero [.v (.ag [.sl false 2 (e_rI false a)])] (.val (.bool r)) [.v (.ag [.sl false 2 (e_rI false a)])] :=
  soundX hmix ok_spec_odZero (fc := (fc_n_spec_odZero a r)) rfl (S₀ := []) rfl rfl (n_spec_odZero_way  h)

abbrev c_spec_odSize_r0 : CC := .reg [
    ⟨(some 1), none, .box (.t 0)⟩,
    ⟨(some 2), none, .mv (.c (.int .i64 0))⟩]
abbrev c_spec_odSize_r1 : CC := .reg [
    ⟨(some 3), none, .mv (.c (.int .i64 1))⟩]
abbrev c_spec_odSize_r2 : CC := .reg [
    ⟨(some 6), none, .fadr 0 (.t 1)⟩,
    ⟨(some 7), none, .load 1 false (.t 6)⟩,
    ⟨(some 8), none, .len false (.t 7)⟩,
    ⟨(some 9), none, .mv (.c (.int .i64 0))⟩]
abbrev c_spec_odSize_r3 : CC := .reg [
    ⟨(some 10), none, .bin .lss (.t 9) (.t 8)⟩]
abbrev c_spec_odSize_r4 : CC := .reg [
    ⟨(some 11), none, .iadr 2 (.t 7) (.t 9)⟩,
    ⟨(some 12), none, .load 2 true (.t 11)⟩,
    ⟨(some 5), none, .alloc [.slice none 0 0, .int .i64 0]⟩,
    ⟨none, none, .store 2 (.t 5) (.t 12)⟩]
abbrev c_spec_odSize_r5 : CC := .reg [
    ⟨(some 13), none, .mv (.t 3)⟩,
    ⟨(some 14), none, .fadr 0 (.t 5)⟩,
    ⟨(some 15), none, .load 1 true (.t 14)⟩,
    ⟨(some 16), none, .call true (.f 96) [(.t 15)]⟩,
    ⟨(some 17), none, .bin .add (.c (.int .i64 1)) (.t 16)⟩,
    ⟨(some 18), none, .bin .add (.t 13) (.t 17)⟩,
    ⟨(some 3), none, .mv (.t 18)⟩]
abbrev c_spec_odSize_r6 : CC := .reg [
    ⟨(some 19), none, .bin .add (.t 9) (.c (.int .i64 1))⟩,
    ⟨(some 9), none, .mv (.t 19)⟩]
abbrev c_spec_odSize_k15 : CC := (.seq (.block 1 (.seq c_spec_odSize_r4 c_spec_odSize_r5)) c_spec_odSize_r6)
abbrev c_spec_odSize_k11 : CC := (.seq (.cond (.t 10) .skip (.exit 0)) c_spec_odSize_k15)
abbrev c_spec_odSize_k9 : CC := (.seq c_spec_odSize_r3 c_spec_odSize_k11)
abbrev c_spec_odSize_k7 : CC := (.block 0 (.loop c_spec_odSize_k9))
abbrev c_spec_odSize_r7 : CC := .reg [
    ⟨(some 20), none, .mv (.t 3)⟩,
    ⟨(some 2), none, .mv (.t 20)⟩]
abbrev c_spec_odSize_k21 : CC := (.seq c_spec_odSize_r7 .ret)
abbrev c_spec_odSize_k4 : CC := (.seq (.seq c_spec_odSize_r2 c_spec_odSize_k7) c_spec_odSize_k21)
abbrev c_spec_odSize_k2 : CC := (.seq c_spec_odSize_r1 c_spec_odSize_k4)
abbrev c_spec_odSize_k0 : CC := (.seq c_spec_odSize_r0 c_spec_odSize_k2)
abbrev c_spec_odSize : CF := ⟨21, [.tmp 2], c_spec_odSize_k0⟩
abbrev F_spec_odSize : Nat := 96
theorem ok_spec_odSize : compileF Tryd.prog 96 = some c_spec_odSize := by kernel_rfl
def fc_n_spec_odSize (a : List T_rI) (r : Int) : FC := ⟨[.v (.ag [.sl false 2 (e_rI false a)])], [.tmp 2], .val (.int .i64 r), [.v (.ag [.sl false 2 (e_rI false a)])]⟩
def T_n_spec_odSize_8 (n_k8_0 : Int) (a : List T_rI) (x_k8_1 : Int) : St := ([(3, .pu (.val (.int .i64 n_k8_0))), (7, .pu (.sl false 2 (e_rI false a))), (8, .pu (.val (.int .i64 (a.length : Int)))), (9, .pu (.val (.int .i64 x_k8_1)))], [])
def n_spec_odSize_b8 (rf_n_spec_odSize : List T_rI → Option Int)  (k8 : Int → List T_rI → Int → Option Int) (n_k8_0 : Int) (a : List T_rI) (x_k8_1 : Int) : Option Int :=
  (bif (decide (x_k8_1 < (a.length : Int))) then
    ((idx a x_k8_1).bind fun (v11_8 : T_rI) =>
    ((rf_n_spec_odSize v11_8.c0).bind fun (v16_8 : Int) =>
    k8 (wr (n_k8_0 + (wr (1 + v16_8)))) a (wr (x_k8_1 + 1))))
  else
    some n_k8_0)
def n_spec_odSize_l8 (rf_n_spec_odSize : List T_rI → Option Int)  : Nat → Int → List T_rI → Int → Option Int
  | 0, _, _, _ => none
  | n + 1, n_k8_0, a, x_k8_1 => n_spec_odSize_b8 rf_n_spec_odSize  (n_spec_odSize_l8 rf_n_spec_odSize  n) n_k8_0 a x_k8_1
theorem n_spec_odSize_b8_ok {I : Nat → St → Prop} {rf_n_spec_odSize : List T_rI → Option Int} (hrf_n_spec_odSize : ∀ (a : List T_rI) (r : Int), rf_n_spec_odSize a = some r → Sound Tryd.prog F_spec_odSize [.v (.ag [.sl false 2 (e_rI false a)])] (.val (.int .i64 r)) [.v (.ag [.sl false 2 (e_rI false a)])])  {a_0 : List T_rI} {r : Int}  {k8 : Int → List T_rI → Int → Option Int} (hI8 : ∀ (n_k8_0 : Int) (a : List T_rI) (x_k8_1 : Int), k8 n_k8_0 a x_k8_1 = some r → I 1 (T_n_spec_odSize_8 n_k8_0 a x_k8_1)) {n_k8_0 : Int} {a : List T_rI} {x_k8_1 : Int} (h : n_spec_odSize_b8 rf_n_spec_odSize  k8 n_k8_0 a x_k8_1 = some r) : wpx Tryd.prog (FC.pn (fc_n_spec_odSize a_0 r)) c_spec_odSize_k9 (kq Tryd.prog (fc_n_spec_odSize a_0 r) I [.lp 1, .blk 0, .sq c_spec_odSize_k21]) (T_n_spec_odSize_8 n_k8_0 a x_k8_1).1 (T_n_spec_odSize_8 n_k8_0 a x_k8_1).2 := by
  unfold n_spec_odSize_b8 at h
  refine bif_elim h (fun c1 h => ?_) (fun c1 h => ?_)
  · refine bind_elim h (fun v11_8 c2 h => ?_)
    refine bind_elim h (fun v16_8 c3 h => ?_)
    exact wayB 200 [.br c1, .row (row_ok k_rI (o := false) c2), .call (hrf_n_spec_odSize _ _ c3), .stop [] (T_n_spec_odSize_8 (wr (n_k8_0 + (wr (1 + v16_8)))) a (wr (x_k8_1 + 1)))] 1 (hI8 _ _ _ h) (by kernel_rfl)
  · cases h
    exact wayR 200 [.br c1, .fin0] (by kernel_rfl)
theorem n_spec_odSize_l8_ok {I : Nat → St → Prop} {rf_n_spec_odSize : List T_rI → Option Int} (hrf_n_spec_odSize : ∀ (a : List T_rI) (r : Int), rf_n_spec_odSize a = some r → Sound Tryd.prog F_spec_odSize [.v (.ag [.sl false 2 (e_rI false a)])] (.val (.int .i64 r)) [.v (.ag [.sl false 2 (e_rI false a)])])  {a_0 : List T_rI} {r : Int}  : ∀ (n : Nat) (n_k8_0 : Int) (a : List T_rI) (x_k8_1 : Int), n_spec_odSize_l8 rf_n_spec_odSize  n n_k8_0 a x_k8_1 = some r → wpx Tryd.prog (FC.pn (fc_n_spec_odSize a_0 r)) (.loop c_spec_odSize_k9) (kq Tryd.prog (fc_n_spec_odSize a_0 r) I [.blk 0, .sq c_spec_odSize_k21]) (T_n_spec_odSize_8 n_k8_0 a x_k8_1).1 (T_n_spec_odSize_8 n_k8_0 a x_k8_1).2 := by
  intro n n_k8_0 a x_k8_1 h
  exact loopN (fc := (fc_n_spec_odSize a_0 r)) (I := I) (j := 1) (V := Int × List T_rI × Int) (fun n v => n_spec_odSize_l8 rf_n_spec_odSize  n v.1 v.2.1 v.2.2) (fun v => T_n_spec_odSize_8 v.1 v.2.1 v.2.2) r (fun v h => by simp [n_spec_odSize_l8] at h) (fun n v h I' hne hI' => n_spec_odSize_b8_ok hrf_n_spec_odSize  (k8 := n_spec_odSize_l8 rf_n_spec_odSize  n) (fun n_k8_0 a x_k8_1 h => hI' (n_k8_0, a, x_k8_1) h) h) (fun I' hne => kq_congr fun i hi => hne i (notIn_ne (by rfl) i hi)) n (n_k8_0, a, x_k8_1) h
def n_spec_odSize_B (rf_n_spec_odSize : List T_rI → Option Int) (a : List T_rI) : Option Int :=
  n_spec_odSize_l8 rf_n_spec_odSize fuel 1 a 0
theorem n_spec_odSize_B_way {I : Nat → St → Prop} {rf_n_spec_odSize : List T_rI → Option Int} (hrf_n_spec_odSize : ∀ (a : List T_rI) (r : Int), rf_n_spec_odSize a = some r → Sound Tryd.prog F_spec_odSize [.v (.ag [.sl false 2 (e_rI false a)])] (.val (.int .i64 r)) [.v (.ag [.sl false 2 (e_rI false a)])]) {a : List T_rI} {r : Int} (h : n_spec_odSize_B rf_n_spec_odSize a = some r) : wpx Tryd.prog (FC.pn (fc_n_spec_odSize a r)) c_spec_odSize_k0 (kq Tryd.prog (fc_n_spec_odSize a r) I []) (([(0, .ag [.pu (.sl false 2 (e_rI false a))])], []) : St).1 (([(0, .ag [.pu (.sl false 2 (e_rI false a))])], []) : St).2 := by
  unfold n_spec_odSize_B at h
  exact way 200 [.len (len_ok k_rI false a), .stop [] (T_n_spec_odSize_8 1 a 0)] (n_spec_odSize_l8_ok hrf_n_spec_odSize _ _ _ _ h) (by kernel_rfl)
theorem n_spec_odSize_B_ok {rf_n_spec_odSize : List T_rI → Option Int} (hrf_n_spec_odSize : ∀ (a : List T_rI) (r : Int), rf_n_spec_odSize a = some r → Sound Tryd.prog F_spec_odSize [.v (.ag [.sl false 2 (e_rI false a)])] (.val (.int .i64 r)) [.v (.ag [.sl false 2 (e_rI false a)])]) {a : List T_rI} {r : Int} (h : n_spec_odSize_B rf_n_spec_odSize a = some r) : Sound Tryd.prog F_spec_odSize [.v (.ag [.sl false 2 (e_rI false a)])] (.val (.int .i64 r)) [.v (.ag [.sl false 2 (e_rI false a)])] :=
  soundX hmix ok_spec_odSize (fc := (fc_n_spec_odSize a r)) rfl (S₀ := []) rfl rfl (n_spec_odSize_B_way hrf_n_spec_odSize h)
def n_spec_odSize_N : Nat → List T_rI → Option Int
  | 0, _ => none
  | n + 1, a => n_spec_odSize_B (n_spec_odSize_N n) a
theorem n_spec_odSize_NN : ∀ n : Nat, (∀ (a : List T_rI) (r : Int), n_spec_odSize_N n a = some r → Sound Tryd.prog F_spec_odSize [.v (.ag [.sl false 2 (e_rI false a)])] (.val (.int .i64 r)) [.v (.ag [.sl false 2 (e_rI false a)])]) ∧ True := by
  intro n
  induction n with
  | zero => refine ⟨?_, ?_⟩ <;> first | trivial | (intros; rename_i h; cases h)
  | succ n ih => exact ⟨fun _ r h => n_spec_odSize_B_ok ih.1 h, trivial⟩
def n_spec_odSize (a : List T_rI) : Option Int := n_spec_odSize_N fuel a
theorem n_spec_odSize_ok {a : List T_rI} {r : Int} (h : n_spec_odSize a = some r) : Sound Tryd.prog F_spec_odSize [.v (.ag [.sl false 2 (e_rI false a)])] (.val (.int .i64 r)) [.v (.ag [.sl false 2 (e_rI false a)])] := (n_spec_odSize_NN fuel).1 a r h

abbrev c_spec_woSize_r0 : CC := .reg [
    ⟨(some 1), none, .box (.t 0)⟩,
    ⟨(some 2), none, .mv (.c (.int .i64 0))⟩]
abbrev c_spec_woSize_r1 : CC := .reg [
    ⟨(some 3), none, .mv (.c (.int .i64 1))⟩]
abbrev c_spec_woSize_r2 : CC := .reg [
    ⟨(some 6), none, .fadr 0 (.t 1)⟩,
    ⟨(some 7), none, .load 1 false (.t 6)⟩,
    ⟨(some 8), none, .len false (.t 7)⟩,
    ⟨(some 9), none, .mv (.c (.int .i64 0))⟩]
abbrev c_spec_woSize_r3 : CC := .reg [
    ⟨(some 10), none, .bin .lss (.t 9) (.t 8)⟩]
abbrev c_spec_woSize_r4 : CC := .reg [
    ⟨(some 11), none, .iadr 2 (.t 7) (.t 9)⟩,
    ⟨(some 12), none, .load 2 true (.t 11)⟩,
    ⟨(some 5), none, .alloc [.bool false, .slice none 0 0]⟩,
    ⟨none, none, .store 2 (.t 5) (.t 12)⟩]
abbrev c_spec_woSize_r5 : CC := .reg [
    ⟨(some 13), none, .mv (.t 3)⟩,
    ⟨(some 14), none, .fadr 1 (.t 5)⟩,
    ⟨(some 15), none, .load 1 true (.t 14)⟩,
    ⟨(some 16), none, .call true (.f 96) [(.t 15)]⟩,
    ⟨(some 17), none, .bin .add (.c (.int .i64 1)) (.t 16)⟩,
    ⟨(some 18), none, .bin .add (.t 13) (.t 17)⟩,
    ⟨(some 3), none, .mv (.t 18)⟩]
abbrev c_spec_woSize_r6 : CC := .reg [
    ⟨(some 19), none, .bin .add (.t 9) (.c (.int .i64 1))⟩,
    ⟨(some 9), none, .mv (.t 19)⟩]
abbrev c_spec_woSize_k15 : CC := (.seq (.block 1 (.seq c_spec_woSize_r4 c_spec_woSize_r5)) c_spec_woSize_r6)
abbrev c_spec_woSize_k11 : CC := (.seq (.cond (.t 10) .skip (.exit 0)) c_spec_woSize_k15)
abbrev c_spec_woSize_k9 : CC := (.seq c_spec_woSize_r3 c_spec_woSize_k11)
abbrev c_spec_woSize_k7 : CC := (.block 0 (.loop c_spec_woSize_k9))
abbrev c_spec_woSize_r7 : CC := .reg [
    ⟨(some 20), none, .mv (.t 3)⟩,
    ⟨(some 2), none, .mv (.t 20)⟩]
abbrev c_spec_woSize_k21 : CC := (.seq c_spec_woSize_r7 .ret)
abbrev c_spec_woSize_k4 : CC := (.seq (.seq c_spec_woSize_r2 c_spec_woSize_k7) c_spec_woSize_k21)
abbrev c_spec_woSize_k2 : CC := (.seq c_spec_woSize_r1 c_spec_woSize_k4)
abbrev c_spec_woSize_k0 : CC := (.seq c_spec_woSize_r0 c_spec_woSize_k2)
abbrev c_spec_woSize : CF := ⟨21, [.tmp 2], c_spec_woSize_k0⟩
abbrev F_spec_woSize : Nat := 58
theorem ok_spec_woSize : compileF Tryd.prog 58 = some c_spec_woSize := by kernel_rfl
def fc_n_spec_woSize (w : List (Bool × List T_rI)) (r : Int) : FC := ⟨[.v (.ag [.sl false 2 (e_BLrIz false w)])], [.tmp 2], .val (.int .i64 r), [.v (.ag [.sl false 2 (e_BLrIz false w)])]⟩
def T_n_spec_woSize_8 (n_k8_0 : Int) (w : List (Bool × List T_rI)) (x_k8_1 : Int) : St := ([(3, .pu (.val (.int .i64 n_k8_0))), (7, .pu (.sl false 2 (e_BLrIz false w))), (8, .pu (.val (.int .i64 (w.length : Int)))), (9, .pu (.val (.int .i64 x_k8_1)))], [])
def n_spec_woSize_b8   (k8 : Int → (List (Bool × List T_rI)) → Int → Option Int) (n_k8_0 : Int) (w : List (Bool × List T_rI)) (x_k8_1 : Int) : Option Int :=
  (bif (decide (x_k8_1 < (w.length : Int))) then
    ((idx w x_k8_1).bind fun (v11_8 : Bool × List T_rI) =>
    ((n_spec_odSize v11_8.2).bind fun (v16_8 : Int) =>
    k8 (wr (n_k8_0 + (wr (1 + v16_8)))) w (wr (x_k8_1 + 1))))
  else
    some n_k8_0)
def n_spec_woSize_l8   : Nat → Int → (List (Bool × List T_rI)) → Int → Option Int
  | 0, _, _, _ => none
  | n + 1, n_k8_0, w, x_k8_1 => n_spec_woSize_b8   (n_spec_woSize_l8   n) n_k8_0 w x_k8_1
theorem n_spec_woSize_b8_ok {I : Nat → St → Prop}    {w_0 : List (Bool × List T_rI)} {r : Int}  {k8 : Int → (List (Bool × List T_rI)) → Int → Option Int} (hI8 : ∀ (n_k8_0 : Int) (w : List (Bool × List T_rI)) (x_k8_1 : Int), k8 n_k8_0 w x_k8_1 = some r → I 1 (T_n_spec_woSize_8 n_k8_0 w x_k8_1)) {n_k8_0 : Int} {w : List (Bool × List T_rI)} {x_k8_1 : Int} (h : n_spec_woSize_b8   k8 n_k8_0 w x_k8_1 = some r) : wpx Tryd.prog (FC.pn (fc_n_spec_woSize w_0 r)) c_spec_woSize_k9 (kq Tryd.prog (fc_n_spec_woSize w_0 r) I [.lp 1, .blk 0, .sq c_spec_woSize_k21]) (T_n_spec_woSize_8 n_k8_0 w x_k8_1).1 (T_n_spec_woSize_8 n_k8_0 w x_k8_1).2 := by
  unfold n_spec_woSize_b8 at h
  refine bif_elim h (fun c1 h => ?_) (fun c1 h => ?_)
  · refine bind_elim h (fun v11_8 c2 h => ?_)
    refine bind_elim h (fun v16_8 c3 h => ?_)
    exact wayB 200 [.br c1, .row (row_ok k_BLrIz (o := false) c2), .call (n_spec_odSize_ok c3), .stop [] (T_n_spec_woSize_8 (wr (n_k8_0 + (wr (1 + v16_8)))) w (wr (x_k8_1 + 1)))] 1 (hI8 _ _ _ h) (by kernel_rfl)
  · cases h
    exact wayR 200 [.br c1, .fin0] (by kernel_rfl)
theorem n_spec_woSize_l8_ok {I : Nat → St → Prop}    {w_0 : List (Bool × List T_rI)} {r : Int}  : ∀ (n : Nat) (n_k8_0 : Int) (w : List (Bool × List T_rI)) (x_k8_1 : Int), n_spec_woSize_l8   n n_k8_0 w x_k8_1 = some r → wpx Tryd.prog (FC.pn (fc_n_spec_woSize w_0 r)) (.loop c_spec_woSize_k9) (kq Tryd.prog (fc_n_spec_woSize w_0 r) I [.blk 0, .sq c_spec_woSize_k21]) (T_n_spec_woSize_8 n_k8_0 w x_k8_1).1 (T_n_spec_woSize_8 n_k8_0 w x_k8_1).2 := by
  intro n n_k8_0 w x_k8_1 h
  exact loopN (fc := (fc_n_spec_woSize w_0 r)) (I := I) (j := 1) (V := Int × (List (Bool × List T_rI)) × Int) (fun n v => n_spec_woSize_l8   n v.1 v.2.1 v.2.2) (fun v => T_n_spec_woSize_8 v.1 v.2.1 v.2.2) r (fun v h => by simp [n_spec_woSize_l8] at h) (fun n v h I' hne hI' => n_spec_woSize_b8_ok   (k8 := n_spec_woSize_l8   n) (fun n_k8_0 w x_k8_1 h => hI' (n_k8_0, w, x_k8_1) h) h) (fun I' hne => kq_congr fun i hi => hne i (notIn_ne (by rfl) i hi)) n (n_k8_0, w, x_k8_1) h
def n_spec_woSize  (w : List (Bool × List T_rI)) : Option Int :=
  n_spec_woSize_l8 fuel 1 w 0
theorem n_spec_woSize_way {I : Nat → St → Prop}   {w : List (Bool × List T_rI)} {r : Int} (h : n_spec_woSize  w = some r) : wpx Tryd.prog (FC.pn (fc_n_spec_woSize w r)) c_spec_woSize_k0 (kq Tryd.prog (fc_n_spec_woSize w r) I []) (([(0, .ag [.pu (.sl false 2 (e_BLrIz false w))])], []) : St).1 (([(0, .ag [.pu (.sl false 2 (e_BLrIz false w))])], []) : St).2 := by
  unfold n_spec_woSize at h
  exact way 200 [.len (len_ok k_BLrIz false w), .stop [] (T_n_spec_woSize_8 1 w 0)] (n_spec_woSize_l8_ok _ _ _ _ h) (by kernel_rfl)
theorem n_spec_woSize_ok   {w : List (Bool × List T_rI)} {r : Int} (h : n_spec_woSize  w = some r) : Sound Tryd.prog F_spec_woSize [.v (.ag [.sl false 2 (e_BLrIz false w)])] (.val (.int .i64 r)) [.v (.ag [.sl false 2 (e_BLrIz false w)])] :=
  soundX hmix ok_spec_woSize (fc := (fc_n_spec_woSize w r)) rfl (S₀ := []) rfl rfl (n_spec_woSize_way  h)

abbrev c_spec_woGood_r0 : CC := .reg [
    ⟨(some 1), none, .box (.t 0)⟩,
    ⟨(some 2), none, .mv (.c (.bool false))⟩]
abbrev c_spec_woGood_r1 : CC := .reg [
    ⟨(some 5), none, .fadr 0 (.t 1)⟩,
    ⟨(some 6), none, .load 1 false (.t 5)⟩,
    ⟨(some 7), none, .len false (.t 6)⟩,
    ⟨(some 8), none, .mv (.c (.int .i64 0))⟩]
abbrev c_spec_woGood_r2 : CC := .reg [
    ⟨(some 9), none, .bin .lss (.t 8) (.t 7)⟩]
abbrev c_spec_woGood_r3 : CC := .reg [
    ⟨(some 10), none, .mv (.t 8)⟩,
    ⟨(some 11), none, .iadr 2 (.t 6) (.t 8)⟩,
    ⟨(some 12), none, .load 2 true (.t 11)⟩,
    ⟨(some 4), none, .alloc [.bool false, .slice none 0 0]⟩,
    ⟨(some 3), none, .mv (.t 10)⟩,
    ⟨none, none, .store 2 (.t 4) (.t 12)⟩]
abbrev c_spec_woGood_r4 : CC := .drw [
    ⟨(some 13), none, .fadr 1 (.t 4)⟩,
    ⟨(some 14), none, .load 1 true (.t 13)⟩,
    ⟨(some 15), none, .call true (.f 56) [(.t 14)]⟩,
    ⟨(some 16), none, .un .not (.t 15)⟩,
    ⟨(some 17), none, .mv (.t 16)⟩,
    ⟨(some 18), (some (17, false)), .fadr 1 (.t 4)⟩,
    ⟨(some 19), (some (17, false)), .load 1 true (.t 18)⟩,
    ⟨(some 20), (some (17, false)), .call true (.f 57) [(.t 19)]⟩,
    ⟨(some 21), none, .pick (.t 17) (.c (.bool true)) (.t 20)⟩,
    ⟨(some 22), none, .mv (.t 21)⟩,
    ⟨(some 23), (some (22, false)), .mv (.t 3)⟩,
    ⟨(some 24), (some (22, false)), .bin .gtr (.t 23) (.c (.int .i64 0))⟩,
    ⟨(some 25), (some (22, false)), .mv (.t 24)⟩,
    ⟨(some 26), (some (25, true)), .fadr 0 (.t 1)⟩,
    ⟨(some 27), (some (25, true)), .load 1 false (.t 26)⟩,
    ⟨(some 28), (some (25, true)), .mv (.t 3)⟩,
    ⟨(some 29), (some (25, true)), .bin .sub (.t 28) (.c (.int .i64 1))⟩,
    ⟨(some 30), (some (25, true)), .iadr 2 (.t 27) (.t 29)⟩,
    ⟨(some 31), (some (25, true)), .fadr 0 (.t 30)⟩,
    ⟨(some 32), (some (25, true)), .load 1 false (.t 31)⟩,
    ⟨(some 33), (some (25, true)), .fadr 0 (.t 4)⟩,
    ⟨(some 34), (some (25, true)), .load 1 false (.t 33)⟩,
    ⟨(some 35), (some (25, true)), .beq false (.t 32) (.t 34)⟩,
    ⟨(some 36), (some (22, false)), .pick (.t 25) (.t 35) (.c (.bool false))⟩,
    ⟨(some 37), none, .pick (.t 22) (.c (.bool true)) (.t 36)⟩] [(13, 15), (14, 15), (13, 16), (14, 16), (13, 20), (14, 20), (15, 20), (16, 20), (17, 20), (18, 20), (19, 20), (13, 21), (14, 21), (15, 21), (16, 21), (17, 21), (18, 21), (19, 21)]
abbrev c_spec_woGood_r5 : CC := .reg [
    ⟨(some 2), none, .mv (.c (.bool false))⟩]
abbrev c_spec_woGood_k19 : CC := (.cond (.t 37) (.seq c_spec_woGood_r5 .ret) .skip)
abbrev c_spec_woGood_k17 : CC := (.seq c_spec_woGood_r4 c_spec_woGood_k19)
abbrev c_spec_woGood_r6 : CC := .reg [
    ⟨(some 38), none, .bin .add (.t 8) (.c (.int .i64 1))⟩,
    ⟨(some 8), none, .mv (.t 38)⟩]
abbrev c_spec_woGood_k13 : CC := (.seq (.block 1 (.seq c_spec_woGood_r3 c_spec_woGood_k17)) c_spec_woGood_r6)
abbrev c_spec_woGood_k9 : CC := (.seq (.cond (.t 9) .skip (.exit 0)) c_spec_woGood_k13)
abbrev c_spec_woGood_k7 : CC := (.seq c_spec_woGood_r2 c_spec_woGood_k9)
abbrev c_spec_woGood_k5 : CC := (.block 0 (.loop c_spec_woGood_k7))
abbrev c_spec_woGood_r7 : CC := .reg [
    ⟨(some 39), none, .load 1 true (.t 1)⟩,
    ⟨(some 40), none, .call true (.f 58) [(.t 39)]⟩,
    ⟨(some 41), none, .bin .leq (.t 40) (.c (.int .i64 60))⟩,
    ⟨(some 2), none, .mv (.t 41)⟩]
abbrev c_spec_woGood_k25 : CC := (.seq c_spec_woGood_r7 .ret)
abbrev c_spec_woGood_k2 : CC := (.seq (.seq c_spec_woGood_r1 c_spec_woGood_k5) c_spec_woGood_k25)
abbrev c_spec_woGood_k0 : CC := (.seq c_spec_woGood_r0 c_spec_woGood_k2)
abbrev c_spec_woGood : CF := ⟨42, [.tmp 2], c_spec_woGood_k0⟩
abbrev F_spec_woGood : Nat := 31
theorem ok_spec_woGood : compileF Tryd.prog 31 = some c_spec_woGood := by kernel_rfl
def fc_n_spec_woGood (w : List (Bool × List T_rI)) (r : Bool) : FC := ⟨[.v (.ag [.sl false 2 (e_BLrIz false w)])], [.tmp 2], .val (.bool r), [.v (.ag [.sl false 2 (e_BLrIz false w)])]⟩
def T_n_spec_woGood_6 (w : List (Bool × List T_rI)) (x_k6_0 : Int) : St := ([(1, .ob 1 0), (6, .pu (.sl false 2 (e_BLrIz false w))), (7, .pu (.val (.int .i64 (w.length : Int)))), (8, .pu (.val (.int .i64 x_k6_0)))], [(1, .box [.pu (.sl false 2 (e_BLrIz false w))])])
def n_spec_woGood_b6   (k6 : (List (Bool × List T_rI)) → Int → Option Bool) (w : List (Bool × List T_rI)) (x_k6_0 : Int) : Option Bool :=
  (bif (decide (x_k6_0 < (w.length : Int))) then
    ((idx w x_k6_0).bind fun (v11_6 : Bool × List T_rI) =>
    ((n_spec_odGood v11_6.2).bind fun (v15_6 : Bool) =>
    (bif v15_6 then
      ((n_spec_odZero v11_6.2).bind fun (v20_6 : Bool) =>
      (bif v20_6 then
        some false
      else
        (bif (decide (x_k6_0 > 0)) then
          ((idx w (wr (x_k6_0 - 1))).bind fun (v30_6 : Bool × List T_rI) =>
          (bif (decide (v30_6.1 = v11_6.1)) then
            some false
          else
            k6 w (wr (x_k6_0 + 1))))
        else
          k6 w (wr (x_k6_0 + 1)))))
    else
      some false)))
  else
    ((n_spec_woSize w).bind fun (v40_6 : Int) =>
    some (decide (v40_6 ≤ 60))))
def n_spec_woGood_l6   : Nat → (List (Bool × List T_rI)) → Int → Option Bool
  | 0, _, _ => none
  | n + 1, w, x_k6_0 => n_spec_woGood_b6   (n_spec_woGood_l6   n) w x_k6_0
theorem n_spec_woGood_b6_ok {I : Nat → St → Prop}    {w_0 : List (Bool × List T_rI)} {r : Bool}  {k6 : (List (Bool × List T_rI)) → Int → Option Bool} (hI6 : ∀ (w : List (Bool × List T_rI)) (x_k6_0 : Int), k6 w x_k6_0 = some r → I 1 (T_n_spec_woGood_6 w x_k6_0)) {w : List (Bool × List T_rI)} {x_k6_0 : Int} (h : n_spec_woGood_b6   k6 w x_k6_0 = some r) : wpx Tryd.prog (FC.pn (fc_n_spec_woGood w_0 r)) c_spec_woGood_k7 (kq Tryd.prog (fc_n_spec_woGood w_0 r) I [.lp 1, .blk 0, .sq c_spec_woGood_k25]) (T_n_spec_woGood_6 w x_k6_0).1 (T_n_spec_woGood_6 w x_k6_0).2 := by
  unfold n_spec_woGood_b6 at h
  refine bif_elim h (fun c1 h => ?_) (fun c1 h => ?_)
  · refine bind_elim h (fun v11_6 c2 h => ?_)
    refine bind_elim h (fun v15_6 c3 h => ?_)
    refine bif_elim h (fun c4 h => ?_) (fun c4 h => ?_)
    · refine bind_elim h (fun v20_6 c5 h => ?_)
      refine bif_elim h (fun c6 h => ?_) (fun c6 h => ?_)
      · cases h
        exact wayR 200 [.br c1, .row (row_ok k_BLrIz (o := false) c2), .call (n_spec_odGood_ok c3), .br (congrArg not c4), .br (congrArg not c4), .br (congrArg not c4), .call (n_spec_odZero_ok c5), .br (congrArg not c4), .br c6, .br c6, .br c6, .br c6, .br c6, .lit true, .fin0] (by kernel_rfl)
      · refine bif_elim h (fun c7 h => ?_) (fun c7 h => ?_)
        · refine bind_elim h (fun v30_6 c8 h => ?_)
          refine bif_elim h (fun c9 h => ?_) (fun c9 h => ?_)
          · cases h
            exact wayR 200 [.br c1, .row (row_ok k_BLrIz (o := false) c2), .call (n_spec_odGood_ok c3), .br (congrArg not c4), .br (congrArg not c4), .br (congrArg not c4), .call (n_spec_odZero_ok c5), .br (congrArg not c4), .br c6, .br c6, .br c6, .br c7, .br c7, .br c7, .br c7, .br c7, .row (row_ok k_BLrIz (o := false) c8), .br c7, .br c7, .br c7, .br c7, .br c7, .br c6, .br c7, .br c6, .br c9, .fin0] (by kernel_rfl)
          · exact wayB 200 [.br c1, .row (row_ok k_BLrIz (o := false) c2), .call (n_spec_odGood_ok c3), .br (congrArg not c4), .br (congrArg not c4), .br (congrArg not c4), .call (n_spec_odZero_ok c5), .br (congrArg not c4), .br c6, .br c6, .br c6, .br c7, .br c7, .br c7, .br c7, .br c7, .row (row_ok k_BLrIz (o := false) c8), .br c7, .br c7, .br c7, .br c7, .br c7, .br c6, .br c7, .br c6, .br c9, .stop [] (T_n_spec_woGood_6 w (wr (x_k6_0 + 1)))] 1 (hI6 _ _ h) (by kernel_rfl)
        · exact wayB 200 [.br c1, .row (row_ok k_BLrIz (o := false) c2), .call (n_spec_odGood_ok c3), .br (congrArg not c4), .br (congrArg not c4), .br (congrArg not c4), .call (n_spec_odZero_ok c5), .br (congrArg not c4), .br c6, .br c6, .br c6, .br c7, .br c7, .br c7, .br c7, .br c7, .br c7, .br c7, .br c7, .br c7, .br c7, .br c6, .br c7, .br c6, .lit false, .stop [] (T_n_spec_woGood_6 w (wr (x_k6_0 + 1)))] 1 (hI6 _ _ h) (by kernel_rfl)
    · cases h
      exact wayR 200 [.br c1, .row (row_ok k_BLrIz (o := false) c2), .call (n_spec_odGood_ok c3), .br (congrArg not c4), .br (congrArg not c4), .br (congrArg not c4), .br (congrArg not c4), .lit true, .lit true, .lit true, .lit true, .lit true, .lit true, .fin0] (by kernel_rfl)
  · refine bind_elim h (fun v40_6 c10 h => ?_)
    cases h
    exact wayR 200 [.br c1, .call (n_spec_woSize_ok c10), .fin0] (by kernel_rfl)
theorem n_spec_woGood_l6_ok {I : Nat → St → Prop}    {w_0 : List (Bool × List T_rI)} {r : Bool}  : ∀ (n : Nat) (w : List (Bool × List T_rI)) (x_k6_0 : Int), n_spec_woGood_l6   n w x_k6_0 = some r → wpx Tryd.prog (FC.pn (fc_n_spec_woGood w_0 r)) (.loop c_spec_woGood_k7) (kq Tryd.prog (fc_n_spec_woGood w_0 r) I [.blk 0, .sq c_spec_woGood_k25]) (T_n_spec_woGood_6 w x_k6_0).1 (T_n_spec_woGood_6 w x_k6_0).2 := by
  intro n w x_k6_0 h
  exact loopN (fc := (fc_n_spec_woGood w_0 r)) (I := I) (j := 1) (V := (List (Bool × List T_rI)) × Int) (fun n v => n_spec_woGood_l6   n v.1 v.2) (fun v => T_n_spec_woGood_6 v.1 v.2) r (fun v h => by simp [n_spec_woGood_l6] at h) (fun n v h I' hne hI' => n_spec_woGood_b6_ok   (k6 := n_spec_woGood_l6   n) (fun w x_k6_0 h => hI' (w, x_k6_0) h) h) (fun I' hne => kq_congr fun i hi => hne i (notIn_ne (by rfl) i hi)) n (w, x_k6_0) h
def n_spec_woGood  (w : List (Bool × List T_rI)) : Option Bool :=
  n_spec_woGood_l6 fuel w 0
theorem n_spec_woGood_way {I : Nat → St → Prop}   {w : List (Bool × List T_rI)} {r : Bool} (h : n_spec_woGood  w = some r) : wpx Tryd.prog (FC.pn (fc_n_spec_woGood w r)) c_spec_woGood_k0 (kq Tryd.prog (fc_n_spec_woGood w r) I []) (([(0, .ag [.pu (.sl false 2 (e_BLrIz false w))])], []) : St).1 (([(0, .ag [.pu (.sl false 2 (e_BLrIz false w))])], []) : St).2 := by
  unfold n_spec_woGood at h
  exact way 200 [.len (len_ok k_BLrIz false w), .stop [] (T_n_spec_woGood_6 w 0)] (n_spec_woGood_l6_ok _ _ _ h) (by kernel_rfl)
theorem n_spec_woGood_ok   {w : List (Bool × List T_rI)} {r : Bool} (h : n_spec_woGood  w = some r) : Sound Tryd.prog F_spec_woGood [.v (.ag [.sl false 2 (e_BLrIz false w)])] (.val (.bool r)) [.v (.ag [.sl false 2 (e_BLrIz false w)])] :=
  soundX hmix ok_spec_woGood (fc := (fc_n_spec_woGood w r)) rfl (S₀ := []) rfl rfl (n_spec_woGood_way  h)

abbrev c_spec_odTerm_r0 : CC := .reg [
    ⟨(some 2), none, .box (.t 0)⟩,
    ⟨(some 4), none, .alloc [.slice none 0 0]⟩]
abbrev c_spec_odTerm_r1 : CC := .reg [
    ⟨(some 5), none, .mv (.t 1)⟩,
    ⟨(some 6), none, .bin .eql (.t 5) (.c (.int .i64 0))⟩]
abbrev c_spec_odTerm_r2 : CC := .reg [
    ⟨(some 7), none, .build [.slice none 0 0] []⟩,
    ⟨none, none, .store 1 (.t 4) (.t 7)⟩]
abbrev c_spec_odTerm_k5 : CC := (.cond (.t 6) (.seq c_spec_odTerm_r2 .ret) .skip)
abbrev c_spec_odTerm_r3 : CC := .reg [
    ⟨(some 8), none, .load 1 true (.t 2)⟩,
    ⟨(some 9), none, .mv (.t 1)⟩,
    ⟨(some 10), none, .build [.slice none 0 0, .int .i64 0] [(0, 1, (.t 8)), (1, 1, (.t 9))]⟩,
    ⟨(some 11), none, .buildSl 2 1 [(0, (.t 10))]⟩,
    ⟨(some 12), none, .build [.slice none 0 0] [(0, 1, (.t 11))]⟩,
    ⟨none, none, .store 1 (.t 4) (.t 12)⟩]
abbrev c_spec_odTerm_k10 : CC := (.seq c_spec_odTerm_r3 .ret)
abbrev c_spec_odTerm_k2 : CC := (.seq (.seq c_spec_odTerm_r1 c_spec_odTerm_k5) c_spec_odTerm_k10)
abbrev c_spec_odTerm_k0 : CC := (.seq c_spec_odTerm_r0 c_spec_odTerm_k2)
abbrev c_spec_odTerm : CF := ⟨13, [.cell 4 1 true], c_spec_odTerm_k0⟩
abbrev F_spec_odTerm : Nat := 83
theorem ok_spec_odTerm : compileF Tryd.prog 83 = some c_spec_odTerm := by kernel_rfl
def fc_n_spec_odTerm (exp : List T_rI) (coef : Int) (r : List T_rI) : FC := ⟨[.v (.ag [.sl false 2 (e_rI false exp)]), .v (.val (.int .i64 coef))], [.cell 4 1 true], .ag [.sl true 2 (e_rI false r)], [.v (.ag [.sl false 2 (e_rI false exp)]), .v (.val (.int .i64 coef))]⟩
def n_spec_odTerm  (exp : List T_rI) (coef : Int) : Option (List T_rI) :=
  (bif (decide (coef = 0)) then
    some []
  else
    some [(T_rI.mk exp coef)])
theorem n_spec_odTerm_way {I : Nat → St → Prop}   {exp : List T_rI} {coef : Int} {r : List T_rI} (h : n_spec_odTerm  exp coef = some r) : wpx Tryd.prog (FC.pn (fc_n_spec_odTerm exp coef r)) c_spec_odTerm_k0 (kq Tryd.prog (fc_n_spec_odTerm exp coef r) I []) (([(0, .ag [.pu (.sl false 2 (e_rI false exp))]), (1, .pu (.val (.int .i64 coef)))], []) : St).1 (([(0, .ag [.pu (.sl false 2 (e_rI false exp))]), (1, .pu (.val (.int .i64 coef)))], []) : St).2 := by
  unfold n_spec_odTerm at h
  refine bif_elim h (fun c1 h => ?_) (fun c1 h => ?_)
  · cases h
    exact wayR 200 [.br c1, .finr (DLe.ag (DLes.c (DLe.nil true 2) DLes.z))] (by kernel_rfl)
  · cases h
    exact wayR 200 [.br c1, .fin0] (by kernel_rfl)
theorem n_spec_odTerm_ok   {exp : List T_rI} {coef : Int} {r : List T_rI} (h : n_spec_odTerm  exp coef = some r) : Sound Tryd.prog F_spec_odTerm [.v (.ag [.sl false 2 (e_rI false exp)]), .v (.val (.int .i64 coef))] (.ag [.sl true 2 (e_rI false r)]) [.v (.ag [.sl false 2 (e_rI false exp)]), .v (.val (.int .i64 coef))] :=
  soundX hmix ok_spec_odTerm (fc := (fc_n_spec_odTerm exp coef r)) rfl (S₀ := []) rfl rfl (n_spec_odTerm_way  h)

abbrev c_spec_odInt_r0 : CC := .reg [
    ⟨(some 2), none, .alloc [.slice none 0 0]⟩]
abbrev c_spec_odInt_r1 : CC := .reg [
    ⟨(some 3), none, .build [.slice none 0 0] []⟩,
    ⟨(some 4), none, .mv (.t 0)⟩,
    ⟨(some 5), none, .call false (.f 83) [(.t 3), (.t 4)]⟩,
    ⟨none, none, .store 1 (.t 2) (.t 5)⟩]
abbrev c_spec_odInt_k2 : CC := (.seq c_spec_odInt_r1 .ret)
abbrev c_spec_odInt_k0 : CC := (.seq c_spec_odInt_r0 c_spec_odInt_k2)
abbrev c_spec_odInt : CF := ⟨6, [.cell 2 1 true], c_spec_odInt_k0⟩
abbrev F_spec_odInt : Nat := 48
theorem ok_spec_odInt : compileF Tryd.prog 48 = some c_spec_odInt := by kernel_rfl
def fc_n_spec_odInt (n_ : Int) (r : List T_rI) : FC := ⟨[.v (.val (.int .i64 n_))], [.cell 2 1 true], .ag [.sl true 2 (e_rI false r)], [.v (.val (.int .i64 n_))]⟩
def n_spec_odInt  (n_ : Int) : Option (List T_rI) :=
  ((n_spec_odTerm [] n_).bind fun (v5_0 : List T_rI) =>
  some v5_0)
theorem n_spec_odInt_way {I : Nat → St → Prop}   {n_ : Int} {r : List T_rI} (h : n_spec_odInt  n_ = some r) : wpx Tryd.prog (FC.pn (fc_n_spec_odInt n_ r)) c_spec_odInt_k0 (kq Tryd.prog (fc_n_spec_odInt n_ r) I []) (([(0, .pu (.val (.int .i64 n_)))], []) : St).1 (([(0, .pu (.val (.int .i64 n_)))], []) : St).2 := by
  unfold n_spec_odInt at h
  refine bind_elim h (fun v5_0 c1 h => ?_)
  cases h
  exact wayR 200 [.callw (ALes.v (DLe.ag (DLes.c (DLe.nil _ _) DLes.z)) (ALes.v (DLe.refl _) ALes.z)) (n_spec_odTerm_ok c1), .fin0] (by kernel_rfl)
theorem n_spec_odInt_ok   {n_ : Int} {r : List T_rI} (h : n_spec_odInt  n_ = some r) : Sound Tryd.prog F_spec_odInt [.v (.val (.int .i64 n_))] (.ag [.sl true 2 (e_rI false r)]) [.v (.val (.int .i64 n_))] :=
  soundX hmix ok_spec_odInt (fc := (fc_n_spec_odInt n_ r)) rfl (S₀ := []) rfl rfl (n_spec_odInt_way  h)

abbrev c_spec_l1Num_r0 : CC := .reg [
    ⟨(some 2), none, .mv (.c (.string ⟨#[]⟩))⟩]
abbrev c_spec_l1Num_r1 : CC := .reg [
    ⟨(some 3), none, .mv (.t 0)⟩,
    ⟨(some 4), none, .bin .lss (.t 3) (.c (.int .i64 10))⟩]
abbrev c_spec_l1Num_r2 : CC := .reg [
    ⟨(some 5), none, .mv (.t 0)⟩,
    ⟨(some 6), none, .bin .add (.c (.int .i64 48)) (.t 5)⟩,
    ⟨(some 7), none, .toInt .u8 (.t 6)⟩,
    ⟨(some 8), none, .buildSl 1 1 [(0, (.t 7))]⟩,
    ⟨(some 9), none, .str (.t 8)⟩,
    ⟨(some 2), none, .mv (.t 9)⟩]
abbrev c_spec_l1Num_k5 : CC := (.cond (.t 4) (.seq c_spec_l1Num_r2 .ret) .skip)
abbrev c_spec_l1Num_r3 : CC := .drw [
    ⟨(some 10), none, .mv (.t 0)⟩,
    ⟨(some 11), none, .bin .quo (.t 10) (.c (.int .i64 10))⟩,
    ⟨(some 12), none, .call true (.f 98) [(.t 11)]⟩,
    ⟨(some 13), none, .mv (.t 0)⟩,
    ⟨(some 14), none, .bin .rem (.t 13) (.c (.int .i64 10))⟩,
    ⟨(some 15), none, .bin .add (.c (.int .i64 48)) (.t 14)⟩,
    ⟨(some 16), none, .toInt .u8 (.t 15)⟩,
    ⟨(some 17), none, .buildSl 1 1 [(0, (.t 16))]⟩,
    ⟨(some 18), none, .str (.t 17)⟩,
    ⟨(some 19), none, .bin .add (.t 12) (.t 18)⟩,
    ⟨(some 2), none, .mv (.t 19)⟩] [(0, 3), (1, 3), (2, 3), (0, 4), (1, 4), (2, 4), (0, 5), (1, 5), (2, 5), (0, 6), (1, 6), (2, 6), (0, 7), (1, 7), (2, 7), (0, 8), (1, 8), (2, 8)]
abbrev c_spec_l1Num_k10 : CC := (.seq c_spec_l1Num_r3 .ret)
abbrev c_spec_l1Num_k2 : CC := (.seq (.seq c_spec_l1Num_r1 c_spec_l1Num_k5) c_spec_l1Num_k10)
abbrev c_spec_l1Num_k0 : CC := (.seq c_spec_l1Num_r0 c_spec_l1Num_k2)
abbrev c_spec_l1Num : CF := ⟨20, [.tmp 2], c_spec_l1Num_k0⟩
abbrev F_spec_l1Num : Nat := 98
theorem ok_spec_l1Num : compileF Tryd.prog 98 = some c_spec_l1Num := by kernel_rfl
def fc_n_spec_l1Num (n_ : Int) (r : ByteArray) : FC := ⟨[.v (.val (.int .i64 n_))], [.tmp 2], .val (.string r), [.v (.val (.int .i64 n_))]⟩
def n_spec_l1Num_B (rf_n_spec_l1Num : Int → Option ByteArray) (n_ : Int) : Option ByteArray :=
  (bif (decide (n_ < 10)) then
    some (strn [(IntKind.u8.wrap ((wr (48 + n_))))])
  else
    ((rf_n_spec_l1Num (wr (Int.tdiv n_ 10))).bind fun (v12_0 : ByteArray) =>
    ((cats v12_0 (strn [(IntKind.u8.wrap ((wr (48 + (Int.tmod n_ 10)))))])).bind fun (v19_0 : ByteArray) =>
    some (v12_0 ++ (strn [(IntKind.u8.wrap ((wr (48 + (Int.tmod n_ 10)))))])))))
theorem n_spec_l1Num_B_way {I : Nat → St → Prop} {rf_n_spec_l1Num : Int → Option ByteArray} (hrf_n_spec_l1Num : ∀ (n_ : Int) (r : ByteArray), rf_n_spec_l1Num n_ = some r → Sound Tryd.prog F_spec_l1Num [.v (.val (.int .i64 n_))] (.val (.string r)) [.v (.val (.int .i64 n_))]) {n_ : Int} {r : ByteArray} (h : n_spec_l1Num_B rf_n_spec_l1Num n_ = some r) : wpx Tryd.prog (FC.pn (fc_n_spec_l1Num n_ r)) c_spec_l1Num_k0 (kq Tryd.prog (fc_n_spec_l1Num n_ r) I []) (([(0, .pu (.val (.int .i64 n_)))], []) : St).1 (([(0, .pu (.val (.int .i64 n_)))], []) : St).2 := by
  unfold n_spec_l1Num_B at h
  refine bif_elim h (fun c1 h => ?_) (fun c1 h => ?_)
  · cases h
    exact wayR 200 [.br c1, .str (str_ok false [(IntKind.u8.wrap ((wr (48 + n_))))]), .fin0] (by kernel_rfl)
  · refine bind_elim h (fun v12_0 c2 h => ?_)
    refine bind_elim h (fun v19_0 c3 h => ?_)
    cases h
    exact wayR 200 [.br c1, .nz (b := 10) (by decide), .call (hrf_n_spec_l1Num _ _ c2), .nz (b := 10) (by decide), .str (str_ok false [(IntKind.u8.wrap ((wr (48 + (Int.tmod n_ 10)))))]), .cat (cat_ok c3), .fin0] (by kernel_rfl)
theorem n_spec_l1Num_B_ok {rf_n_spec_l1Num : Int → Option ByteArray} (hrf_n_spec_l1Num : ∀ (n_ : Int) (r : ByteArray), rf_n_spec_l1Num n_ = some r → Sound Tryd.prog F_spec_l1Num [.v (.val (.int .i64 n_))] (.val (.string r)) [.v (.val (.int .i64 n_))]) {n_ : Int} {r : ByteArray} (h : n_spec_l1Num_B rf_n_spec_l1Num n_ = some r) : Sound Tryd.prog F_spec_l1Num [.v (.val (.int .i64 n_))] (.val (.string r)) [.v (.val (.int .i64 n_))] :=
  soundX hmix ok_spec_l1Num (fc := (fc_n_spec_l1Num n_ r)) rfl (S₀ := []) rfl rfl (n_spec_l1Num_B_way hrf_n_spec_l1Num h)
def n_spec_l1Num_N : Nat → Int → Option ByteArray
  | 0, _ => none
  | n + 1, n_ => n_spec_l1Num_B (n_spec_l1Num_N n) n_
theorem n_spec_l1Num_NN : ∀ n : Nat, (∀ (n_ : Int) (r : ByteArray), n_spec_l1Num_N n n_ = some r → Sound Tryd.prog F_spec_l1Num [.v (.val (.int .i64 n_))] (.val (.string r)) [.v (.val (.int .i64 n_))]) ∧ True := by
  intro n
  induction n with
  | zero => refine ⟨?_, ?_⟩ <;> first | trivial | (intros; rename_i h; cases h)
  | succ n ih => exact ⟨fun _ r h => n_spec_l1Num_B_ok ih.1 h, trivial⟩
def n_spec_l1Num (n_ : Int) : Option ByteArray := n_spec_l1Num_N fuel n_
theorem n_spec_l1Num_ok {n_ : Int} {r : ByteArray} (h : n_spec_l1Num n_ = some r) : Sound Tryd.prog F_spec_l1Num [.v (.val (.int .i64 n_))] (.val (.string r)) [.v (.val (.int .i64 n_))] := (n_spec_l1Num_NN fuel).1 n_ r h

abbrev c_spec_odText_r0 : CC := .reg [
    ⟨(some 1), none, .box (.t 0)⟩,
    ⟨(some 2), none, .mv (.c (.string ⟨#[]⟩))⟩]
abbrev c_spec_odText_r1 : CC := .reg [
    ⟨(some 3), none, .mv (.c (.string ⟨#[]⟩))⟩]
abbrev c_spec_odText_r2 : CC := .reg [
    ⟨(some 6), none, .fadr 0 (.t 1)⟩,
    ⟨(some 7), none, .load 1 false (.t 6)⟩,
    ⟨(some 8), none, .len false (.t 7)⟩,
    ⟨(some 9), none, .mv (.c (.int .i64 0))⟩]
abbrev c_spec_odText_r3 : CC := .reg [
    ⟨(some 10), none, .bin .lss (.t 9) (.t 8)⟩]
abbrev c_spec_odText_r4 : CC := .reg [
    ⟨(some 11), none, .mv (.t 9)⟩,
    ⟨(some 12), none, .iadr 2 (.t 7) (.t 9)⟩,
    ⟨(some 13), none, .load 2 true (.t 12)⟩,
    ⟨(some 5), none, .alloc [.slice none 0 0, .int .i64 0]⟩,
    ⟨(some 4), none, .mv (.t 11)⟩,
    ⟨none, none, .store 2 (.t 5) (.t 13)⟩]
abbrev c_spec_odText_r5 : CC := .reg [
    ⟨(some 14), none, .mv (.t 4)⟩,
    ⟨(some 15), none, .bin .gtr (.t 14) (.c (.int .i64 0))⟩]
abbrev c_spec_odText_r6 : CC := .reg [
    ⟨(some 16), none, .mv (.t 3)⟩,
    ⟨(some 17), none, .bin .add (.t 16) (.c (.string ⟨#[43]⟩))⟩,
    ⟨(some 3), none, .mv (.t 17)⟩]
abbrev c_spec_odText_k22 : CC := (.cond (.t 15) c_spec_odText_r6 .skip)
abbrev c_spec_odText_r7 : CC := .reg [
    ⟨(some 18), none, .fadr 0 (.t 5)⟩,
    ⟨(some 19), none, .load 1 true (.t 18)⟩,
    ⟨(some 20), none, .call true (.f 57) [(.t 19)]⟩]
abbrev c_spec_odText_r8 : CC := .reg [
    ⟨(some 21), none, .mv (.t 3)⟩,
    ⟨(some 22), none, .fadr 1 (.t 5)⟩,
    ⟨(some 23), none, .load 1 false (.t 22)⟩,
    ⟨(some 24), none, .call true (.f 98) [(.t 23)]⟩,
    ⟨(some 25), none, .bin .add (.t 21) (.t 24)⟩,
    ⟨(some 3), none, .mv (.t 25)⟩]
abbrev c_spec_odText_k28 : CC := (.cond (.t 20) (.seq c_spec_odText_r8 (.exit 1)) .skip)
abbrev c_spec_odText_r9 : CC := .reg [
    ⟨(some 26), none, .mv (.t 3)⟩,
    ⟨(some 27), none, .bin .add (.t 26) (.c (.string ⟨#[119]⟩))⟩,
    ⟨(some 3), none, .mv (.t 27)⟩]
abbrev c_spec_odText_r10 : CC := .drw [
    ⟨(some 28), none, .fadr 0 (.t 5)⟩,
    ⟨(some 29), none, .load 1 true (.t 28)⟩,
    ⟨(some 30), none, .call false (.f 48) [(.c (.int .i64 1))]⟩,
    ⟨(some 31), none, .call true (.f 60) [(.t 29), (.t 30)]⟩,
    ⟨(some 32), none, .bin .neq (.t 31) (.c (.int .i64 0))⟩] [(0, 2), (1, 2)]
abbrev c_spec_odText_r11 : CC := .reg [
    ⟨(some 33), none, .mv (.t 3)⟩,
    ⟨(some 34), none, .fadr 0 (.t 5)⟩,
    ⟨(some 35), none, .load 1 true (.t 34)⟩,
    ⟨(some 36), none, .call true (.f 61) [(.t 35)]⟩,
    ⟨(some 37), none, .bin .add (.c (.string ⟨#[94, 40]⟩)) (.t 36)⟩,
    ⟨(some 38), none, .bin .add (.t 37) (.c (.string ⟨#[41]⟩))⟩,
    ⟨(some 39), none, .bin .add (.t 33) (.t 38)⟩,
    ⟨(some 3), none, .mv (.t 39)⟩]
abbrev c_spec_odText_k38 : CC := (.cond (.t 32) c_spec_odText_r11 .skip)
abbrev c_spec_odText_r12 : CC := .reg [
    ⟨(some 40), none, .fadr 1 (.t 5)⟩,
    ⟨(some 41), none, .load 1 false (.t 40)⟩,
    ⟨(some 42), none, .bin .gtr (.t 41) (.c (.int .i64 1))⟩]
abbrev c_spec_odText_r13 : CC := .reg [
    ⟨(some 43), none, .mv (.t 3)⟩,
    ⟨(some 44), none, .fadr 1 (.t 5)⟩,
    ⟨(some 45), none, .load 1 false (.t 44)⟩,
    ⟨(some 46), none, .call true (.f 98) [(.t 45)]⟩,
    ⟨(some 47), none, .bin .add (.c (.string ⟨#[42]⟩)) (.t 46)⟩,
    ⟨(some 48), none, .bin .add (.t 43) (.t 47)⟩,
    ⟨(some 3), none, .mv (.t 48)⟩]
abbrev c_spec_odText_k43 : CC := (.cond (.t 42) c_spec_odText_r13 .skip)
abbrev c_spec_odText_k41 : CC := (.seq c_spec_odText_r12 c_spec_odText_k43)
abbrev c_spec_odText_k35 : CC := (.seq (.seq c_spec_odText_r10 c_spec_odText_k38) c_spec_odText_k41)
abbrev c_spec_odText_k33 : CC := (.seq c_spec_odText_r9 c_spec_odText_k35)
abbrev c_spec_odText_k25 : CC := (.seq (.seq c_spec_odText_r7 c_spec_odText_k28) c_spec_odText_k33)
abbrev c_spec_odText_k19 : CC := (.seq (.seq c_spec_odText_r5 c_spec_odText_k22) c_spec_odText_k25)
abbrev c_spec_odText_r14 : CC := .reg [
    ⟨(some 49), none, .bin .add (.t 9) (.c (.int .i64 1))⟩,
    ⟨(some 9), none, .mv (.t 49)⟩]
abbrev c_spec_odText_k15 : CC := (.seq (.block 1 (.seq c_spec_odText_r4 c_spec_odText_k19)) c_spec_odText_r14)
abbrev c_spec_odText_k11 : CC := (.seq (.cond (.t 10) .skip (.exit 0)) c_spec_odText_k15)
abbrev c_spec_odText_k9 : CC := (.seq c_spec_odText_r3 c_spec_odText_k11)
abbrev c_spec_odText_k7 : CC := (.block 0 (.loop c_spec_odText_k9))
abbrev c_spec_odText_r15 : CC := .reg [
    ⟨(some 50), none, .mv (.t 3)⟩,
    ⟨(some 51), none, .bin .eql (.t 50) (.c (.string ⟨#[]⟩))⟩]
abbrev c_spec_odText_r16 : CC := .reg [
    ⟨(some 2), none, .mv (.c (.string ⟨#[48]⟩))⟩]
abbrev c_spec_odText_k50 : CC := (.cond (.t 51) (.seq c_spec_odText_r16 .ret) .skip)
abbrev c_spec_odText_r17 : CC := .reg [
    ⟨(some 52), none, .mv (.t 3)⟩,
    ⟨(some 2), none, .mv (.t 52)⟩]
abbrev c_spec_odText_k55 : CC := (.seq c_spec_odText_r17 .ret)
abbrev c_spec_odText_k47 : CC := (.seq (.seq c_spec_odText_r15 c_spec_odText_k50) c_spec_odText_k55)
abbrev c_spec_odText_k4 : CC := (.seq (.seq c_spec_odText_r2 c_spec_odText_k7) c_spec_odText_k47)
abbrev c_spec_odText_k2 : CC := (.seq c_spec_odText_r1 c_spec_odText_k4)
abbrev c_spec_odText_k0 : CC := (.seq c_spec_odText_r0 c_spec_odText_k2)
abbrev c_spec_odText : CF := ⟨53, [.tmp 2], c_spec_odText_k0⟩
abbrev F_spec_odText : Nat := 61
theorem ok_spec_odText : compileF Tryd.prog 61 = some c_spec_odText := by kernel_rfl
def fc_n_spec_odText (a : List T_rI) (r : ByteArray) : FC := ⟨[.v (.ag [.sl false 2 (e_rI false a)])], [.tmp 2], .val (.string r), [.v (.ag [.sl false 2 (e_rI false a)])]⟩
def T_n_spec_odText_41 (out_k41_0 : ByteArray) (a : List T_rI) (x_k41_1 : Int) (v12_8 : T_rI) : St := ([(3, .pu (.val (.string out_k41_0))), (5, .ob 5 0), (7, .pu (.sl false 2 (e_rI false a))), (8, .pu (.val (.int .i64 (a.length : Int)))), (9, .pu (.val (.int .i64 x_k41_1)))], [(5, .box [.pu (.sl false 2 (e_rI false v12_8.c0)), .pu (.val (.int .i64 v12_8.c1))])])
def T_n_spec_odText_25 (out_k25_0 : ByteArray) (a : List T_rI) (x_k25_1 : Int) (v12_8 : T_rI) : St := ([(3, .pu (.val (.string out_k25_0))), (5, .ob 5 0), (7, .pu (.sl false 2 (e_rI false a))), (8, .pu (.val (.int .i64 (a.length : Int)))), (9, .pu (.val (.int .i64 x_k25_1)))], [(5, .box [.pu (.sl false 2 (e_rI false v12_8.c0)), .pu (.val (.int .i64 v12_8.c1))])])
def T_n_spec_odText_8 (out_k8_0 : ByteArray) (a : List T_rI) (x_k8_1 : Int) : St := ([(3, .pu (.val (.string out_k8_0))), (7, .pu (.sl false 2 (e_rI false a))), (8, .pu (.val (.int .i64 (a.length : Int)))), (9, .pu (.val (.int .i64 x_k8_1)))], [])
def n_spec_odText_j41 (rf_n_spec_odText : List T_rI → Option ByteArray) (k8 : ByteArray → List T_rI → Int → Option ByteArray) (out_k41_0 : ByteArray) (a : List T_rI) (x_k41_1 : Int) (v12_8 : T_rI) : Option ByteArray :=
  (bif (decide (v12_8.c1 > 1)) then
    ((n_spec_l1Num v12_8.c1).bind fun (v46_41 : ByteArray) =>
    ((cats (⟨#[42]⟩ : ByteArray) v46_41).bind fun (v47_41 : ByteArray) =>
    ((cats out_k41_0 ((⟨#[42]⟩ : ByteArray) ++ v46_41)).bind fun (v48_41 : ByteArray) =>
    k8 (out_k41_0 ++ ((⟨#[42]⟩ : ByteArray) ++ v46_41)) a (wr (x_k41_1 + 1)))))
  else
    k8 out_k41_0 a (wr (x_k41_1 + 1)))
theorem n_spec_odText_j41_ok {I : Nat → St → Prop} {rf_n_spec_odText : List T_rI → Option ByteArray} (hrf_n_spec_odText : ∀ (a : List T_rI) (r : ByteArray), rf_n_spec_odText a = some r → Sound Tryd.prog F_spec_odText [.v (.ag [.sl false 2 (e_rI false a)])] (.val (.string r)) [.v (.ag [.sl false 2 (e_rI false a)])]) {k8 : ByteArray → List T_rI → Int → Option ByteArray} {a_0 : List T_rI} {r : ByteArray} (hI8 : ∀ (out_k8_0 : ByteArray) (a : List T_rI) (x_k8_1 : Int), k8 out_k8_0 a x_k8_1 = some r → I 1 (T_n_spec_odText_8 out_k8_0 a x_k8_1)) {out_k41_0 : ByteArray} {a : List T_rI} {x_k41_1 : Int} {v12_8 : T_rI} (h : n_spec_odText_j41 rf_n_spec_odText k8 out_k41_0 a x_k41_1 v12_8 = some r) : wpx Tryd.prog (FC.pn (fc_n_spec_odText a_0 r)) c_spec_odText_k41 (kq Tryd.prog (fc_n_spec_odText a_0 r) I [.blk 1, .sq c_spec_odText_r14, .lp 1, .blk 0, .sq c_spec_odText_k47]) (T_n_spec_odText_41 out_k41_0 a x_k41_1 v12_8).1 (T_n_spec_odText_41 out_k41_0 a x_k41_1 v12_8).2 := by
  unfold n_spec_odText_j41 at h
  refine bif_elim h (fun c1 h => ?_) (fun c1 h => ?_)
  · refine bind_elim h (fun v46_41 c2 h => ?_)
    refine bind_elim h (fun v47_41 c3 h => ?_)
    refine bind_elim h (fun v48_41 c4 h => ?_)
    exact wayB 200 [.br c1, .call (n_spec_l1Num_ok c2), .cat (cat_ok c3), .cat (cat_ok c4), .stop [] (T_n_spec_odText_8 (out_k41_0 ++ ((⟨#[42]⟩ : ByteArray) ++ v46_41)) a (wr (x_k41_1 + 1)))] 1 (hI8 _ _ _ h) (by kernel_rfl)
  · exact wayB 200 [.br c1, .stop [] (T_n_spec_odText_8 out_k41_0 a (wr (x_k41_1 + 1)))] 1 (hI8 _ _ _ h) (by kernel_rfl)
def n_spec_odText_j25 (rf_n_spec_odText : List T_rI → Option ByteArray) (k8 : ByteArray → List T_rI → Int → Option ByteArray) (out_k25_0 : ByteArray) (a : List T_rI) (x_k25_1 : Int) (v12_8 : T_rI) : Option ByteArray :=
  ((n_spec_odZero v12_8.c0).bind fun (v20_25 : Bool) =>
  (bif v20_25 then
    ((n_spec_l1Num v12_8.c1).bind fun (v24_25 : ByteArray) =>
    ((cats out_k25_0 v24_25).bind fun (v25_25 : ByteArray) =>
    k8 (out_k25_0 ++ v24_25) a (wr (x_k25_1 + 1))))
  else
    ((cats out_k25_0 (⟨#[119]⟩ : ByteArray)).bind fun (v27_25 : ByteArray) =>
    ((n_spec_odInt 1).bind fun (v30_25 : List T_rI) =>
    ((n_spec_odCmp v12_8.c0 v30_25).bind fun (v31_25 : Int) =>
    (bif (decide (v31_25 = 0)) then
      n_spec_odText_j41 rf_n_spec_odText k8 (out_k25_0 ++ (⟨#[119]⟩ : ByteArray)) a x_k25_1 v12_8
    else
      ((rf_n_spec_odText v12_8.c0).bind fun (v36_25 : ByteArray) =>
      ((cats (⟨#[94, 40]⟩ : ByteArray) v36_25).bind fun (v37_25 : ByteArray) =>
      ((cats ((⟨#[94, 40]⟩ : ByteArray) ++ v36_25) (⟨#[41]⟩ : ByteArray)).bind fun (v38_25 : ByteArray) =>
      ((cats (out_k25_0 ++ (⟨#[119]⟩ : ByteArray)) (((⟨#[94, 40]⟩ : ByteArray) ++ v36_25) ++ (⟨#[41]⟩ : ByteArray))).bind fun (v39_25 : ByteArray) =>
      n_spec_odText_j41 rf_n_spec_odText k8 ((out_k25_0 ++ (⟨#[119]⟩ : ByteArray)) ++ (((⟨#[94, 40]⟩ : ByteArray) ++ v36_25) ++ (⟨#[41]⟩ : ByteArray))) a x_k25_1 v12_8))))))))))
theorem n_spec_odText_j25_ok {I : Nat → St → Prop} {rf_n_spec_odText : List T_rI → Option ByteArray} (hrf_n_spec_odText : ∀ (a : List T_rI) (r : ByteArray), rf_n_spec_odText a = some r → Sound Tryd.prog F_spec_odText [.v (.ag [.sl false 2 (e_rI false a)])] (.val (.string r)) [.v (.ag [.sl false 2 (e_rI false a)])]) {k8 : ByteArray → List T_rI → Int → Option ByteArray} {a_0 : List T_rI} {r : ByteArray} (hI8 : ∀ (out_k8_0 : ByteArray) (a : List T_rI) (x_k8_1 : Int), k8 out_k8_0 a x_k8_1 = some r → I 1 (T_n_spec_odText_8 out_k8_0 a x_k8_1)) {out_k25_0 : ByteArray} {a : List T_rI} {x_k25_1 : Int} {v12_8 : T_rI} (h : n_spec_odText_j25 rf_n_spec_odText k8 out_k25_0 a x_k25_1 v12_8 = some r) : wpx Tryd.prog (FC.pn (fc_n_spec_odText a_0 r)) c_spec_odText_k25 (kq Tryd.prog (fc_n_spec_odText a_0 r) I [.blk 1, .sq c_spec_odText_r14, .lp 1, .blk 0, .sq c_spec_odText_k47]) (T_n_spec_odText_25 out_k25_0 a x_k25_1 v12_8).1 (T_n_spec_odText_25 out_k25_0 a x_k25_1 v12_8).2 := by
  unfold n_spec_odText_j25 at h
  refine bind_elim h (fun v20_25 c1 h => ?_)
  refine bif_elim h (fun c2 h => ?_) (fun c2 h => ?_)
  · refine bind_elim h (fun v24_25 c3 h => ?_)
    refine bind_elim h (fun v25_25 c4 h => ?_)
    exact wayB 200 [.call (n_spec_odZero_ok c1), .br c2, .call (n_spec_l1Num_ok c3), .cat (cat_ok c4), .stop [] (T_n_spec_odText_8 (out_k25_0 ++ v24_25) a (wr (x_k25_1 + 1)))] 1 (hI8 _ _ _ h) (by kernel_rfl)
  · refine bind_elim h (fun v27_25 c5 h => ?_)
    refine bind_elim h (fun v30_25 c6 h => ?_)
    refine bind_elim h (fun v31_25 c7 h => ?_)
    refine bif_elim h (fun c8 h => ?_) (fun c8 h => ?_)
    · exact way 200 [.call (n_spec_odZero_ok c1), .br c2, .cat (cat_ok c5), .call (n_spec_odInt_ok c6), .pub (pub_ok k_rI false v30_25), .call (n_spec_odCmp_ok c7), .br (congrArg not c8), .pass 1, .cut [] (T_n_spec_odText_41 (out_k25_0 ++ (⟨#[119]⟩ : ByteArray)) a x_k25_1 v12_8)] (n_spec_odText_j41_ok hrf_n_spec_odText hI8 h) (by kernel_rfl)
    · refine bind_elim h (fun v36_25 c9 h => ?_)
      refine bind_elim h (fun v37_25 c10 h => ?_)
      refine bind_elim h (fun v38_25 c11 h => ?_)
      refine bind_elim h (fun v39_25 c12 h => ?_)
      exact way 200 [.call (n_spec_odZero_ok c1), .br c2, .cat (cat_ok c5), .call (n_spec_odInt_ok c6), .pub (pub_ok k_rI false v30_25), .call (n_spec_odCmp_ok c7), .br (congrArg not c8), .call (hrf_n_spec_odText _ _ c9), .cat (cat_ok c10), .cat (cat_ok c11), .cat (cat_ok c12), .cut [] (T_n_spec_odText_41 ((out_k25_0 ++ (⟨#[119]⟩ : ByteArray)) ++ (((⟨#[94, 40]⟩ : ByteArray) ++ v36_25) ++ (⟨#[41]⟩ : ByteArray))) a x_k25_1 v12_8)] (n_spec_odText_j41_ok hrf_n_spec_odText hI8 h) (by kernel_rfl)
def n_spec_odText_b8 (rf_n_spec_odText : List T_rI → Option ByteArray)  (k8 : ByteArray → List T_rI → Int → Option ByteArray) (out_k8_0 : ByteArray) (a : List T_rI) (x_k8_1 : Int) : Option ByteArray :=
  (bif (decide (x_k8_1 < (a.length : Int))) then
    ((idx a x_k8_1).bind fun (v12_8 : T_rI) =>
    (bif (decide (x_k8_1 > 0)) then
      ((cats out_k8_0 (⟨#[43]⟩ : ByteArray)).bind fun (v17_8 : ByteArray) =>
      n_spec_odText_j25 rf_n_spec_odText k8 (out_k8_0 ++ (⟨#[43]⟩ : ByteArray)) a x_k8_1 v12_8)
    else
      n_spec_odText_j25 rf_n_spec_odText k8 out_k8_0 a x_k8_1 v12_8))
  else
    (bif (decide (out_k8_0 = (⟨#[]⟩ : ByteArray))) then
      some (⟨#[48]⟩ : ByteArray)
    else
      some out_k8_0))
def n_spec_odText_l8 (rf_n_spec_odText : List T_rI → Option ByteArray)  : Nat → ByteArray → List T_rI → Int → Option ByteArray
  | 0, _, _, _ => none
  | n + 1, out_k8_0, a, x_k8_1 => n_spec_odText_b8 rf_n_spec_odText  (n_spec_odText_l8 rf_n_spec_odText  n) out_k8_0 a x_k8_1
theorem n_spec_odText_b8_ok {I : Nat → St → Prop} {rf_n_spec_odText : List T_rI → Option ByteArray} (hrf_n_spec_odText : ∀ (a : List T_rI) (r : ByteArray), rf_n_spec_odText a = some r → Sound Tryd.prog F_spec_odText [.v (.ag [.sl false 2 (e_rI false a)])] (.val (.string r)) [.v (.ag [.sl false 2 (e_rI false a)])])  {a_0 : List T_rI} {r : ByteArray}  {k8 : ByteArray → List T_rI → Int → Option ByteArray} (hI8 : ∀ (out_k8_0 : ByteArray) (a : List T_rI) (x_k8_1 : Int), k8 out_k8_0 a x_k8_1 = some r → I 1 (T_n_spec_odText_8 out_k8_0 a x_k8_1)) {out_k8_0 : ByteArray} {a : List T_rI} {x_k8_1 : Int} (h : n_spec_odText_b8 rf_n_spec_odText  k8 out_k8_0 a x_k8_1 = some r) : wpx Tryd.prog (FC.pn (fc_n_spec_odText a_0 r)) c_spec_odText_k9 (kq Tryd.prog (fc_n_spec_odText a_0 r) I [.lp 1, .blk 0, .sq c_spec_odText_k47]) (T_n_spec_odText_8 out_k8_0 a x_k8_1).1 (T_n_spec_odText_8 out_k8_0 a x_k8_1).2 := by
  unfold n_spec_odText_b8 at h
  refine bif_elim h (fun c1 h => ?_) (fun c1 h => ?_)
  · refine bind_elim h (fun v12_8 c2 h => ?_)
    refine bif_elim h (fun c3 h => ?_) (fun c3 h => ?_)
    · refine bind_elim h (fun v17_8 c4 h => ?_)
      exact way 200 [.br c1, .row (row_ok k_rI (o := false) c2), .br c3, .cat (cat_ok c4), .cut [] (T_n_spec_odText_25 (out_k8_0 ++ (⟨#[43]⟩ : ByteArray)) a x_k8_1 v12_8)] (n_spec_odText_j25_ok hrf_n_spec_odText hI8 h) (by kernel_rfl)
    · exact way 200 [.br c1, .row (row_ok k_rI (o := false) c2), .br c3, .pass 1, .cut [] (T_n_spec_odText_25 out_k8_0 a x_k8_1 v12_8)] (n_spec_odText_j25_ok hrf_n_spec_odText hI8 h) (by kernel_rfl)
  · refine bif_elim h (fun c5 h => ?_) (fun c5 h => ?_)
    · cases h
      exact wayR 200 [.br c1, .br c5, .fin0] (by kernel_rfl)
    · cases h
      exact wayR 200 [.br c1, .br c5, .fin0] (by kernel_rfl)
theorem n_spec_odText_l8_ok {I : Nat → St → Prop} {rf_n_spec_odText : List T_rI → Option ByteArray} (hrf_n_spec_odText : ∀ (a : List T_rI) (r : ByteArray), rf_n_spec_odText a = some r → Sound Tryd.prog F_spec_odText [.v (.ag [.sl false 2 (e_rI false a)])] (.val (.string r)) [.v (.ag [.sl false 2 (e_rI false a)])])  {a_0 : List T_rI} {r : ByteArray}  : ∀ (n : Nat) (out_k8_0 : ByteArray) (a : List T_rI) (x_k8_1 : Int), n_spec_odText_l8 rf_n_spec_odText  n out_k8_0 a x_k8_1 = some r → wpx Tryd.prog (FC.pn (fc_n_spec_odText a_0 r)) (.loop c_spec_odText_k9) (kq Tryd.prog (fc_n_spec_odText a_0 r) I [.blk 0, .sq c_spec_odText_k47]) (T_n_spec_odText_8 out_k8_0 a x_k8_1).1 (T_n_spec_odText_8 out_k8_0 a x_k8_1).2 := by
  intro n out_k8_0 a x_k8_1 h
  exact loopN (fc := (fc_n_spec_odText a_0 r)) (I := I) (j := 1) (V := ByteArray × List T_rI × Int) (fun n v => n_spec_odText_l8 rf_n_spec_odText  n v.1 v.2.1 v.2.2) (fun v => T_n_spec_odText_8 v.1 v.2.1 v.2.2) r (fun v h => by simp [n_spec_odText_l8] at h) (fun n v h I' hne hI' => n_spec_odText_b8_ok hrf_n_spec_odText  (k8 := n_spec_odText_l8 rf_n_spec_odText  n) (fun out_k8_0 a x_k8_1 h => hI' (out_k8_0, a, x_k8_1) h) h) (fun I' hne => kq_congr fun i hi => hne i (notIn_ne (by rfl) i hi)) n (out_k8_0, a, x_k8_1) h
def n_spec_odText_B (rf_n_spec_odText : List T_rI → Option ByteArray) (a : List T_rI) : Option ByteArray :=
  n_spec_odText_l8 rf_n_spec_odText fuel (⟨#[]⟩ : ByteArray) a 0
theorem n_spec_odText_B_way {I : Nat → St → Prop} {rf_n_spec_odText : List T_rI → Option ByteArray} (hrf_n_spec_odText : ∀ (a : List T_rI) (r : ByteArray), rf_n_spec_odText a = some r → Sound Tryd.prog F_spec_odText [.v (.ag [.sl false 2 (e_rI false a)])] (.val (.string r)) [.v (.ag [.sl false 2 (e_rI false a)])]) {a : List T_rI} {r : ByteArray} (h : n_spec_odText_B rf_n_spec_odText a = some r) : wpx Tryd.prog (FC.pn (fc_n_spec_odText a r)) c_spec_odText_k0 (kq Tryd.prog (fc_n_spec_odText a r) I []) (([(0, .ag [.pu (.sl false 2 (e_rI false a))])], []) : St).1 (([(0, .ag [.pu (.sl false 2 (e_rI false a))])], []) : St).2 := by
  unfold n_spec_odText_B at h
  exact way 200 [.len (len_ok k_rI false a), .stop [] (T_n_spec_odText_8 (⟨#[]⟩ : ByteArray) a 0)] (n_spec_odText_l8_ok hrf_n_spec_odText _ _ _ _ h) (by kernel_rfl)
theorem n_spec_odText_B_ok {rf_n_spec_odText : List T_rI → Option ByteArray} (hrf_n_spec_odText : ∀ (a : List T_rI) (r : ByteArray), rf_n_spec_odText a = some r → Sound Tryd.prog F_spec_odText [.v (.ag [.sl false 2 (e_rI false a)])] (.val (.string r)) [.v (.ag [.sl false 2 (e_rI false a)])]) {a : List T_rI} {r : ByteArray} (h : n_spec_odText_B rf_n_spec_odText a = some r) : Sound Tryd.prog F_spec_odText [.v (.ag [.sl false 2 (e_rI false a)])] (.val (.string r)) [.v (.ag [.sl false 2 (e_rI false a)])] :=
  soundX hmix ok_spec_odText (fc := (fc_n_spec_odText a r)) rfl (S₀ := []) rfl rfl (n_spec_odText_B_way hrf_n_spec_odText h)
def n_spec_odText_N : Nat → List T_rI → Option ByteArray
  | 0, _ => none
  | n + 1, a => n_spec_odText_B (n_spec_odText_N n) a
theorem n_spec_odText_NN : ∀ n : Nat, (∀ (a : List T_rI) (r : ByteArray), n_spec_odText_N n a = some r → Sound Tryd.prog F_spec_odText [.v (.ag [.sl false 2 (e_rI false a)])] (.val (.string r)) [.v (.ag [.sl false 2 (e_rI false a)])]) ∧ True := by
  intro n
  induction n with
  | zero => refine ⟨?_, ?_⟩ <;> first | trivial | (intros; rename_i h; cases h)
  | succ n ih => exact ⟨fun _ r h => n_spec_odText_B_ok ih.1 h, trivial⟩
def n_spec_odText (a : List T_rI) : Option ByteArray := n_spec_odText_N fuel a
theorem n_spec_odText_ok {a : List T_rI} {r : ByteArray} (h : n_spec_odText a = some r) : Sound Tryd.prog F_spec_odText [.v (.ag [.sl false 2 (e_rI false a)])] (.val (.string r)) [.v (.ag [.sl false 2 (e_rI false a)])] := (n_spec_odText_NN fuel).1 a r h

abbrev c_spec_shLetter_r0 : CC := .reg [
    ⟨(some 2), none, .mv (.c (.string ⟨#[]⟩))⟩]
abbrev c_spec_shLetter_r1 : CC := .reg [
    ⟨(some 3), none, .mv (.t 0)⟩]
abbrev c_spec_shLetter_r2 : CC := .reg [
    ⟨(some 2), none, .mv (.c (.string ⟨#[43]⟩))⟩]
abbrev c_spec_shLetter_k5 : CC := (.cond (.t 3) (.seq c_spec_shLetter_r2 .ret) .skip)
abbrev c_spec_shLetter_r3 : CC := .reg [
    ⟨(some 2), none, .mv (.c (.string ⟨#[45]⟩))⟩]
abbrev c_spec_shLetter_k10 : CC := (.seq c_spec_shLetter_r3 .ret)
abbrev c_spec_shLetter_k2 : CC := (.seq (.seq c_spec_shLetter_r1 c_spec_shLetter_k5) c_spec_shLetter_k10)
abbrev c_spec_shLetter_k0 : CC := (.seq c_spec_shLetter_r0 c_spec_shLetter_k2)
abbrev c_spec_shLetter : CF := ⟨4, [.tmp 2], c_spec_shLetter_k0⟩
abbrev F_spec_shLetter : Nat := 59
theorem ok_spec_shLetter : compileF Tryd.prog 59 = some c_spec_shLetter := by kernel_rfl
def fc_n_spec_shLetter (plus : Bool) (r : ByteArray) : FC := ⟨[.v (.val (.bool plus))], [.tmp 2], .val (.string r), [.v (.val (.bool plus))]⟩
def n_spec_shLetter  (plus : Bool) : Option ByteArray :=
  (bif plus then
    some (⟨#[43]⟩ : ByteArray)
  else
    some (⟨#[45]⟩ : ByteArray))
theorem n_spec_shLetter_way {I : Nat → St → Prop}   {plus : Bool} {r : ByteArray} (h : n_spec_shLetter  plus = some r) : wpx Tryd.prog (FC.pn (fc_n_spec_shLetter plus r)) c_spec_shLetter_k0 (kq Tryd.prog (fc_n_spec_shLetter plus r) I []) (([(0, .pu (.val (.bool plus)))], []) : St).1 (([(0, .pu (.val (.bool plus)))], []) : St).2 := by
  unfold n_spec_shLetter at h
  refine bif_elim h (fun c1 h => ?_) (fun c1 h => ?_)
  · cases h
    exact wayR 200 [.br c1, .fin0] (by kernel_rfl)
  · cases h
    exact wayR 200 [.br c1, .fin0] (by kernel_rfl)
theorem n_spec_shLetter_ok   {plus : Bool} {r : ByteArray} (h : n_spec_shLetter  plus = some r) : Sound Tryd.prog F_spec_shLetter [.v (.val (.bool plus))] (.val (.string r)) [.v (.val (.bool plus))] :=
  soundX hmix ok_spec_shLetter (fc := (fc_n_spec_shLetter plus r)) rfl (S₀ := []) rfl rfl (n_spec_shLetter_way  h)

abbrev c_spec_woText_r0 : CC := .reg [
    ⟨(some 1), none, .box (.t 0)⟩,
    ⟨(some 2), none, .mv (.c (.string ⟨#[]⟩))⟩]
abbrev c_spec_woText_r1 : CC := .reg [
    ⟨(some 3), none, .mv (.c (.string ⟨#[]⟩))⟩]
abbrev c_spec_woText_r2 : CC := .reg [
    ⟨(some 6), none, .fadr 0 (.t 1)⟩,
    ⟨(some 7), none, .load 1 false (.t 6)⟩,
    ⟨(some 8), none, .len false (.t 7)⟩,
    ⟨(some 9), none, .mv (.c (.int .i64 0))⟩]
abbrev c_spec_woText_r3 : CC := .reg [
    ⟨(some 10), none, .bin .lss (.t 9) (.t 8)⟩]
abbrev c_spec_woText_r4 : CC := .reg [
    ⟨(some 11), none, .iadr 2 (.t 7) (.t 9)⟩,
    ⟨(some 12), none, .load 2 true (.t 11)⟩,
    ⟨(some 5), none, .alloc [.bool false, .slice none 0 0]⟩,
    ⟨none, none, .store 2 (.t 5) (.t 12)⟩]
abbrev c_spec_woText_r5 : CC := .reg [
    ⟨(some 13), none, .mv (.t 3)⟩,
    ⟨(some 14), none, .fadr 0 (.t 5)⟩,
    ⟨(some 15), none, .load 1 false (.t 14)⟩,
    ⟨(some 16), none, .call true (.f 59) [(.t 15)]⟩,
    ⟨(some 17), none, .bin .add (.t 13) (.t 16)⟩,
    ⟨(some 3), none, .mv (.t 17)⟩]
abbrev c_spec_woText_r6 : CC := .drw [
    ⟨(some 18), none, .fadr 1 (.t 5)⟩,
    ⟨(some 19), none, .load 1 true (.t 18)⟩,
    ⟨(some 20), none, .call false (.f 48) [(.c (.int .i64 1))]⟩,
    ⟨(some 21), none, .call true (.f 60) [(.t 19), (.t 20)]⟩,
    ⟨(some 22), none, .bin .neq (.t 21) (.c (.int .i64 0))⟩] [(0, 2), (1, 2)]
abbrev c_spec_woText_r7 : CC := .reg [
    ⟨(some 23), none, .mv (.t 3)⟩,
    ⟨(some 24), none, .fadr 1 (.t 5)⟩,
    ⟨(some 25), none, .load 1 true (.t 24)⟩,
    ⟨(some 26), none, .call true (.f 61) [(.t 25)]⟩,
    ⟨(some 27), none, .bin .add (.c (.string ⟨#[40]⟩)) (.t 26)⟩,
    ⟨(some 28), none, .bin .add (.t 27) (.c (.string ⟨#[41]⟩))⟩,
    ⟨(some 29), none, .bin .add (.t 23) (.t 28)⟩,
    ⟨(some 3), none, .mv (.t 29)⟩]
abbrev c_spec_woText_k23 : CC := (.cond (.t 22) c_spec_woText_r7 .skip)
abbrev c_spec_woText_k21 : CC := (.seq c_spec_woText_r6 c_spec_woText_k23)
abbrev c_spec_woText_k19 : CC := (.seq c_spec_woText_r5 c_spec_woText_k21)
abbrev c_spec_woText_r8 : CC := .reg [
    ⟨(some 30), none, .bin .add (.t 9) (.c (.int .i64 1))⟩,
    ⟨(some 9), none, .mv (.t 30)⟩]
abbrev c_spec_woText_k15 : CC := (.seq (.block 1 (.seq c_spec_woText_r4 c_spec_woText_k19)) c_spec_woText_r8)
abbrev c_spec_woText_k11 : CC := (.seq (.cond (.t 10) .skip (.exit 0)) c_spec_woText_k15)
abbrev c_spec_woText_k9 : CC := (.seq c_spec_woText_r3 c_spec_woText_k11)
abbrev c_spec_woText_k7 : CC := (.block 0 (.loop c_spec_woText_k9))
abbrev c_spec_woText_r9 : CC := .reg [
    ⟨(some 31), none, .mv (.t 3)⟩,
    ⟨(some 32), none, .bin .eql (.t 31) (.c (.string ⟨#[]⟩))⟩]
abbrev c_spec_woText_r10 : CC := .reg [
    ⟨(some 2), none, .mv (.c (.string ⟨#[48]⟩))⟩]
abbrev c_spec_woText_k30 : CC := (.cond (.t 32) (.seq c_spec_woText_r10 .ret) .skip)
abbrev c_spec_woText_r11 : CC := .reg [
    ⟨(some 33), none, .mv (.t 3)⟩,
    ⟨(some 2), none, .mv (.t 33)⟩]
abbrev c_spec_woText_k35 : CC := (.seq c_spec_woText_r11 .ret)
abbrev c_spec_woText_k27 : CC := (.seq (.seq c_spec_woText_r9 c_spec_woText_k30) c_spec_woText_k35)
abbrev c_spec_woText_k4 : CC := (.seq (.seq c_spec_woText_r2 c_spec_woText_k7) c_spec_woText_k27)
abbrev c_spec_woText_k2 : CC := (.seq c_spec_woText_r1 c_spec_woText_k4)
abbrev c_spec_woText_k0 : CC := (.seq c_spec_woText_r0 c_spec_woText_k2)
abbrev c_spec_woText : CF := ⟨34, [.tmp 2], c_spec_woText_k0⟩
abbrev F_spec_woText : Nat := 32
theorem ok_spec_woText : compileF Tryd.prog 32 = some c_spec_woText := by kernel_rfl
def fc_n_spec_woText (w : List (Bool × List T_rI)) (r : ByteArray) : FC := ⟨[.v (.ag [.sl false 2 (e_BLrIz false w)])], [.tmp 2], .val (.string r), [.v (.ag [.sl false 2 (e_BLrIz false w)])]⟩
def T_n_spec_woText_8 (out_k8_0 : ByteArray) (w : List (Bool × List T_rI)) (x_k8_1 : Int) : St := ([(3, .pu (.val (.string out_k8_0))), (7, .pu (.sl false 2 (e_BLrIz false w))), (8, .pu (.val (.int .i64 (w.length : Int)))), (9, .pu (.val (.int .i64 x_k8_1)))], [])
def n_spec_woText_b8   (k8 : ByteArray → (List (Bool × List T_rI)) → Int → Option ByteArray) (out_k8_0 : ByteArray) (w : List (Bool × List T_rI)) (x_k8_1 : Int) : Option ByteArray :=
  (bif (decide (x_k8_1 < (w.length : Int))) then
    ((idx w x_k8_1).bind fun (v11_8 : Bool × List T_rI) =>
    ((n_spec_shLetter v11_8.1).bind fun (v16_8 : ByteArray) =>
    ((cats out_k8_0 v16_8).bind fun (v17_8 : ByteArray) =>
    ((n_spec_odInt 1).bind fun (v20_8 : List T_rI) =>
    ((n_spec_odCmp v11_8.2 v20_8).bind fun (v21_8 : Int) =>
    (bif (decide (v21_8 = 0)) then
      k8 (out_k8_0 ++ v16_8) w (wr (x_k8_1 + 1))
    else
      ((n_spec_odText v11_8.2).bind fun (v26_8 : ByteArray) =>
      ((cats (⟨#[40]⟩ : ByteArray) v26_8).bind fun (v27_8 : ByteArray) =>
      ((cats ((⟨#[40]⟩ : ByteArray) ++ v26_8) (⟨#[41]⟩ : ByteArray)).bind fun (v28_8 : ByteArray) =>
      ((cats (out_k8_0 ++ v16_8) (((⟨#[40]⟩ : ByteArray) ++ v26_8) ++ (⟨#[41]⟩ : ByteArray))).bind fun (v29_8 : ByteArray) =>
      k8 ((out_k8_0 ++ v16_8) ++ (((⟨#[40]⟩ : ByteArray) ++ v26_8) ++ (⟨#[41]⟩ : ByteArray))) w (wr (x_k8_1 + 1))))))))))))
  else
    (bif (decide (out_k8_0 = (⟨#[]⟩ : ByteArray))) then
      some (⟨#[48]⟩ : ByteArray)
    else
      some out_k8_0))
def n_spec_woText_l8   : Nat → ByteArray → (List (Bool × List T_rI)) → Int → Option ByteArray
  | 0, _, _, _ => none
  | n + 1, out_k8_0, w, x_k8_1 => n_spec_woText_b8   (n_spec_woText_l8   n) out_k8_0 w x_k8_1
theorem n_spec_woText_b8_ok {I : Nat → St → Prop}    {w_0 : List (Bool × List T_rI)} {r : ByteArray}  {k8 : ByteArray → (List (Bool × List T_rI)) → Int → Option ByteArray} (hI8 : ∀ (out_k8_0 : ByteArray) (w : List (Bool × List T_rI)) (x_k8_1 : Int), k8 out_k8_0 w x_k8_1 = some r → I 1 (T_n_spec_woText_8 out_k8_0 w x_k8_1)) {out_k8_0 : ByteArray} {w : List (Bool × List T_rI)} {x_k8_1 : Int} (h : n_spec_woText_b8   k8 out_k8_0 w x_k8_1 = some r) : wpx Tryd.prog (FC.pn (fc_n_spec_woText w_0 r)) c_spec_woText_k9 (kq Tryd.prog (fc_n_spec_woText w_0 r) I [.lp 1, .blk 0, .sq c_spec_woText_k27]) (T_n_spec_woText_8 out_k8_0 w x_k8_1).1 (T_n_spec_woText_8 out_k8_0 w x_k8_1).2 := by
  unfold n_spec_woText_b8 at h
  refine bif_elim h (fun c1 h => ?_) (fun c1 h => ?_)
  · refine bind_elim h (fun v11_8 c2 h => ?_)
    refine bind_elim h (fun v16_8 c3 h => ?_)
    refine bind_elim h (fun v17_8 c4 h => ?_)
    refine bind_elim h (fun v20_8 c5 h => ?_)
    refine bind_elim h (fun v21_8 c6 h => ?_)
    refine bif_elim h (fun c7 h => ?_) (fun c7 h => ?_)
    · exact wayB 200 [.br c1, .row (row_ok k_BLrIz (o := false) c2), .call (n_spec_shLetter_ok c3), .cat (cat_ok c4), .call (n_spec_odInt_ok c5), .pub (pub_ok k_rI false v20_8), .call (n_spec_odCmp_ok c6), .br (congrArg not c7), .stop [] (T_n_spec_woText_8 (out_k8_0 ++ v16_8) w (wr (x_k8_1 + 1)))] 1 (hI8 _ _ _ h) (by kernel_rfl)
    · refine bind_elim h (fun v26_8 c8 h => ?_)
      refine bind_elim h (fun v27_8 c9 h => ?_)
      refine bind_elim h (fun v28_8 c10 h => ?_)
      refine bind_elim h (fun v29_8 c11 h => ?_)
      exact wayB 200 [.br c1, .row (row_ok k_BLrIz (o := false) c2), .call (n_spec_shLetter_ok c3), .cat (cat_ok c4), .call (n_spec_odInt_ok c5), .pub (pub_ok k_rI false v20_8), .call (n_spec_odCmp_ok c6), .br (congrArg not c7), .call (n_spec_odText_ok c8), .cat (cat_ok c9), .cat (cat_ok c10), .cat (cat_ok c11), .stop [] (T_n_spec_woText_8 ((out_k8_0 ++ v16_8) ++ (((⟨#[40]⟩ : ByteArray) ++ v26_8) ++ (⟨#[41]⟩ : ByteArray))) w (wr (x_k8_1 + 1)))] 1 (hI8 _ _ _ h) (by kernel_rfl)
  · refine bif_elim h (fun c12 h => ?_) (fun c12 h => ?_)
    · cases h
      exact wayR 200 [.br c1, .br c12, .fin0] (by kernel_rfl)
    · cases h
      exact wayR 200 [.br c1, .br c12, .fin0] (by kernel_rfl)
theorem n_spec_woText_l8_ok {I : Nat → St → Prop}    {w_0 : List (Bool × List T_rI)} {r : ByteArray}  : ∀ (n : Nat) (out_k8_0 : ByteArray) (w : List (Bool × List T_rI)) (x_k8_1 : Int), n_spec_woText_l8   n out_k8_0 w x_k8_1 = some r → wpx Tryd.prog (FC.pn (fc_n_spec_woText w_0 r)) (.loop c_spec_woText_k9) (kq Tryd.prog (fc_n_spec_woText w_0 r) I [.blk 0, .sq c_spec_woText_k27]) (T_n_spec_woText_8 out_k8_0 w x_k8_1).1 (T_n_spec_woText_8 out_k8_0 w x_k8_1).2 := by
  intro n out_k8_0 w x_k8_1 h
  exact loopN (fc := (fc_n_spec_woText w_0 r)) (I := I) (j := 1) (V := ByteArray × (List (Bool × List T_rI)) × Int) (fun n v => n_spec_woText_l8   n v.1 v.2.1 v.2.2) (fun v => T_n_spec_woText_8 v.1 v.2.1 v.2.2) r (fun v h => by simp [n_spec_woText_l8] at h) (fun n v h I' hne hI' => n_spec_woText_b8_ok   (k8 := n_spec_woText_l8   n) (fun out_k8_0 w x_k8_1 h => hI' (out_k8_0, w, x_k8_1) h) h) (fun I' hne => kq_congr fun i hi => hne i (notIn_ne (by rfl) i hi)) n (out_k8_0, w, x_k8_1) h
def n_spec_woText  (w : List (Bool × List T_rI)) : Option ByteArray :=
  n_spec_woText_l8 fuel (⟨#[]⟩ : ByteArray) w 0
theorem n_spec_woText_way {I : Nat → St → Prop}   {w : List (Bool × List T_rI)} {r : ByteArray} (h : n_spec_woText  w = some r) : wpx Tryd.prog (FC.pn (fc_n_spec_woText w r)) c_spec_woText_k0 (kq Tryd.prog (fc_n_spec_woText w r) I []) (([(0, .ag [.pu (.sl false 2 (e_BLrIz false w))])], []) : St).1 (([(0, .ag [.pu (.sl false 2 (e_BLrIz false w))])], []) : St).2 := by
  unfold n_spec_woText at h
  exact way 200 [.len (len_ok k_BLrIz false w), .stop [] (T_n_spec_woText_8 (⟨#[]⟩ : ByteArray) w 0)] (n_spec_woText_l8_ok _ _ _ _ h) (by kernel_rfl)
theorem n_spec_woText_ok   {w : List (Bool × List T_rI)} {r : ByteArray} (h : n_spec_woText  w = some r) : Sound Tryd.prog F_spec_woText [.v (.ag [.sl false 2 (e_BLrIz false w)])] (.val (.string r)) [.v (.ag [.sl false 2 (e_BLrIz false w)])] :=
  soundX hmix ok_spec_woText (fc := (fc_n_spec_woText w r)) rfl (S₀ := []) rfl rfl (n_spec_woText_way  h)

abbrev c_spec_WordText_r0 : CC := .reg [
    ⟨(some 1), none, .box (.t 0)⟩,
    ⟨(some 2), none, .mv (.c (.string ⟨#[]⟩))⟩,
    ⟨(some 3), none, .mv (.c (.bool false))⟩]
abbrev c_spec_WordText_r1 : CC := .reg [
    ⟨(some 4), none, .load 1 true (.t 1)⟩,
    ⟨(some 5), none, .call true (.f 31) [(.t 4)]⟩,
    ⟨(some 6), none, .un .not (.t 5)⟩]
abbrev c_spec_WordText_r2 : CC := .reg [
    ⟨(some 2), none, .mv (.c (.string ⟨#[]⟩))⟩,
    ⟨(some 3), none, .mv (.c (.bool false))⟩]
abbrev c_spec_WordText_k5 : CC := (.cond (.t 6) (.seq c_spec_WordText_r2 .ret) .skip)
abbrev c_spec_WordText_r3 : CC := .reg [
    ⟨(some 7), none, .load 1 true (.t 1)⟩,
    ⟨(some 8), none, .call true (.f 32) [(.t 7)]⟩,
    ⟨(some 2), none, .mv (.t 8)⟩,
    ⟨(some 3), none, .mv (.c (.bool true))⟩]
abbrev c_spec_WordText_k10 : CC := (.seq c_spec_WordText_r3 .ret)
abbrev c_spec_WordText_k2 : CC := (.seq (.seq c_spec_WordText_r1 c_spec_WordText_k5) c_spec_WordText_k10)
abbrev c_spec_WordText_k0 : CC := (.seq c_spec_WordText_r0 c_spec_WordText_k2)
abbrev c_spec_WordText : CF := ⟨9, [.tmp 2, .tmp 3], c_spec_WordText_k0⟩
abbrev F_spec_WordText : Nat := 12
theorem ok_spec_WordText : compileF Tryd.prog 12 = some c_spec_WordText := by kernel_rfl
def fc_n_spec_WordText (w : List (Bool × List T_rI)) (r : ByteArray × Bool) : FC := ⟨[.v (.ag [.sl false 2 (e_BLrIz false w)])], [.tmp 2, .tmp 3], .tp [.val (.string r.1), .val (.bool r.2)], [.v (.ag [.sl false 2 (e_BLrIz false w)])]⟩
def n_spec_WordText  (w : List (Bool × List T_rI)) : Option (ByteArray × Bool) :=
  ((n_spec_woGood w).bind fun (v5_0 : Bool) =>
  (bif v5_0 then
    ((n_spec_woText w).bind fun (v8_0 : ByteArray) =>
    some (v8_0, true))
  else
    some ((⟨#[]⟩ : ByteArray), false)))
theorem n_spec_WordText_way {I : Nat → St → Prop}   {w : List (Bool × List T_rI)} {r : ByteArray × Bool} (h : n_spec_WordText  w = some r) : wpx Tryd.prog (FC.pn (fc_n_spec_WordText w r)) c_spec_WordText_k0 (kq Tryd.prog (fc_n_spec_WordText w r) I []) (([(0, .ag [.pu (.sl false 2 (e_BLrIz false w))])], []) : St).1 (([(0, .ag [.pu (.sl false 2 (e_BLrIz false w))])], []) : St).2 := by
  unfold n_spec_WordText at h
  refine bind_elim h (fun v5_0 c1 h => ?_)
  refine bif_elim h (fun c2 h => ?_) (fun c2 h => ?_)
  · refine bind_elim h (fun v8_0 c3 h => ?_)
    cases h
    exact wayR 200 [.call (n_spec_woGood_ok c1), .br (congrArg not c2), .call (n_spec_woText_ok c3), .fin0] (by kernel_rfl)
  · cases h
    exact wayR 200 [.call (n_spec_woGood_ok c1), .br (congrArg not c2), .fin0] (by kernel_rfl)
theorem n_spec_WordText_ok   {w : List (Bool × List T_rI)} {r : ByteArray × Bool} (h : n_spec_WordText  w = some r) : Sound Tryd.prog F_spec_WordText [.v (.ag [.sl false 2 (e_BLrIz false w)])] (.tp [.val (.string r.1), .val (.bool r.2)]) [.v (.ag [.sl false 2 (e_BLrIz false w)])] :=
  soundX hmix ok_spec_WordText (fc := (fc_n_spec_WordText w r)) rfl (S₀ := []) rfl rfl (n_spec_WordText_way  h)

abbrev c_laws_FnExactWordText_r0 : CC := .reg [
    ⟨(some 1), none, .box (.t 0)⟩,
    ⟨(some 2), none, .mv (.c (.bool false))⟩]
abbrev c_laws_FnExactWordText_r1 : CC := .reg [
    ⟨(some 3), none, .mv (.c (.int .i64 1048576))⟩]
abbrev c_laws_FnExactWordText_r2 : CC := .reg [
    ⟨(some 9), none, .load 1 true (.t 1)⟩,
    ⟨(some 10), none, .mv (.t 3)⟩,
    ⟨(some 11), none, .call true (.f 11) [(.t 9), (.t 10)]⟩,
    ⟨(some 3), none, .mv (.t 11)⟩]
abbrev c_laws_FnExactWordText_r3 : CC := .reg [
    ⟨(some 12), none, .mv (.t 3)⟩,
    ⟨(some 13), none, .bin .lss (.t 12) (.c (.int .i64 0))⟩]
abbrev c_laws_FnExactWordText_r4 : CC := .reg [
    ⟨(some 2), none, .mv (.c (.bool true))⟩]
abbrev c_laws_FnExactWordText_k9 : CC := (.cond (.t 13) (.seq c_laws_FnExactWordText_r4 .ret) .skip)
abbrev c_laws_FnExactWordText_r5 : CC := .reg [
    ⟨(some 15), none, .load 1 true (.t 1)⟩,
    ⟨(some 16), none, .call false (.f 13) [(.t 15)]⟩,
    ⟨(some 17), none, .call true (.f 12) [(.t 16)]⟩,
    ⟨(some 14), none, .mv (.t 17)⟩,
    ⟨(some 18), none, .ext (.t 14) 0⟩,
    ⟨(some 19), none, .ext (.t 14) 1⟩,
    ⟨(some 4), none, .mv (.t 18)⟩,
    ⟨(some 5), none, .mv (.t 19)⟩]
abbrev c_laws_FnExactWordText_r6 : CC := .reg [
    ⟨(some 20), none, .load 1 true (.t 1)⟩,
    ⟨(some 21), none, .call false (.f 13) [(.t 20)]⟩,
    ⟨(some 6), none, .alloc [.slice none 0 0]⟩,
    ⟨none, none, .store 1 (.t 6) (.t 21)⟩]
abbrev c_laws_FnExactWordText_r7 : CC := .reg [
    ⟨(some 23), none, .load 1 true (.t 6)⟩,
    ⟨(some 24), none, .call true (.f 14) [(.t 23)]⟩,
    ⟨(some 22), none, .mv (.t 24)⟩,
    ⟨(some 25), none, .ext (.t 22) 0⟩,
    ⟨(some 26), none, .ext (.t 22) 1⟩,
    ⟨(some 7), none, .mv (.t 25)⟩,
    ⟨(some 8), none, .mv (.t 26)⟩]
abbrev c_laws_FnExactWordText_r8 : CC := .reg [
    ⟨(some 27), none, .mv (.t 7)⟩,
    ⟨(some 28), none, .mv (.t 4)⟩,
    ⟨(some 29), none, .bin .neq (.t 27) (.t 28)⟩,
    ⟨(some 30), none, .mv (.t 29)⟩,
    ⟨(some 31), (some (30, false)), .mv (.t 8)⟩,
    ⟨(some 32), (some (30, false)), .mv (.t 5)⟩,
    ⟨(some 33), (some (30, false)), .beq true (.t 31) (.t 32)⟩,
    ⟨(some 34), none, .pick (.t 30) (.c (.bool true)) (.t 33)⟩]
abbrev c_laws_FnExactWordText_r9 : CC := .reg [
    ⟨(some 2), none, .mv (.c (.bool false))⟩]
abbrev c_laws_FnExactWordText_k23 : CC := (.cond (.t 34) (.seq c_laws_FnExactWordText_r9 .ret) .skip)
abbrev c_laws_FnExactWordText_r10 : CC := .drw [
    ⟨(some 35), none, .load 1 true (.t 6)⟩,
    ⟨(some 36), none, .load 1 true (.t 1)⟩,
    ⟨(some 37), none, .call false (.f 13) [(.t 36)]⟩,
    ⟨(some 38), none, .call true (.f 8) [(.t 35), (.t 37)]⟩,
    ⟨(some 39), none, .un .not (.t 38)⟩] [(0, 1), (0, 2)]
abbrev c_laws_FnExactWordText_r11 : CC := .reg [
    ⟨(some 2), none, .mv (.c (.bool false))⟩]
abbrev c_laws_FnExactWordText_k31 : CC := (.cond (.t 39) (.seq c_laws_FnExactWordText_r11 .ret) .skip)
abbrev c_laws_FnExactWordText_r12 : CC := .reg [
    ⟨(some 2), none, .mv (.c (.bool true))⟩]
abbrev c_laws_FnExactWordText_k36 : CC := (.seq c_laws_FnExactWordText_r12 .ret)
abbrev c_laws_FnExactWordText_k28 : CC := (.seq (.seq c_laws_FnExactWordText_r10 c_laws_FnExactWordText_k31) c_laws_FnExactWordText_k36)
abbrev c_laws_FnExactWordText_k20 : CC := (.seq (.seq c_laws_FnExactWordText_r8 c_laws_FnExactWordText_k23) c_laws_FnExactWordText_k28)
abbrev c_laws_FnExactWordText_k18 : CC := (.seq c_laws_FnExactWordText_r7 c_laws_FnExactWordText_k20)
abbrev c_laws_FnExactWordText_k16 : CC := (.seq c_laws_FnExactWordText_r6 c_laws_FnExactWordText_k18)
abbrev c_laws_FnExactWordText_k14 : CC := (.seq c_laws_FnExactWordText_r5 c_laws_FnExactWordText_k16)
abbrev c_laws_FnExactWordText_k6 : CC := (.seq (.seq c_laws_FnExactWordText_r3 c_laws_FnExactWordText_k9) c_laws_FnExactWordText_k14)
abbrev c_laws_FnExactWordText_k4 : CC := (.seq c_laws_FnExactWordText_r2 c_laws_FnExactWordText_k6)
abbrev c_laws_FnExactWordText_k2 : CC := (.seq c_laws_FnExactWordText_r1 c_laws_FnExactWordText_k4)
abbrev c_laws_FnExactWordText_k0 : CC := (.seq c_laws_FnExactWordText_r0 c_laws_FnExactWordText_k2)
abbrev c_laws_FnExactWordText : CF := ⟨40, [.tmp 2], c_laws_FnExactWordText_k0⟩
abbrev F_laws_FnExactWordText : Nat := 4
theorem ok_laws_FnExactWordText : compileF Tryd.prog 4 = some c_laws_FnExactWordText := by kernel_rfl
def fc_n_laws_FnExactWordText (aW : List (Bool × List T_rI)) (r : Bool) : FC := ⟨[.v (.ag [.sl false 2 (e_BLrIz false aW)])], [.tmp 2], .val (.bool r), [.v (.ag [.sl false 2 (e_BLrIz false aW)])]⟩
def n_laws_FnExactWordText  (aW : List (Bool × List T_rI)) : Option Bool :=
  ((n_laws_szWord aW 1048576).bind fun (v11_0 : Int) =>
  (bif (decide (v11_0 < 0)) then
    some true
  else
    ((n_laws_toWord aW).bind fun (v16_0 : (List (Bool × List T_rI))) =>
    ((n_spec_WordText v16_0).bind fun (v17_0 : ByteArray × Bool) =>
    ((n_laws_toWord aW).bind fun (v21_0 : (List (Bool × List T_rI))) =>
    ((n_impl_WordText v21_0).bind fun (v24_0 : ByteArray × Bool) =>
    (bif (decide (v24_0.1 = v17_0.1)) then
      (bif (decide (v24_0.2 = v17_0.2)) then
        ((n_laws_toWord aW).bind fun (v37_0 : (List (Bool × List T_rI))) =>
        ((n_laws_eqWord v21_0 v37_0).bind fun (v38_0 : Bool) =>
        (bif v38_0 then
          some true
        else
          some false)))
      else
        some false)
    else
      some false)))))))
theorem n_laws_FnExactWordText_way {I : Nat → St → Prop}   {aW : List (Bool × List T_rI)} {r : Bool} (h : n_laws_FnExactWordText  aW = some r) : wpx Tryd.prog (FC.pn (fc_n_laws_FnExactWordText aW r)) c_laws_FnExactWordText_k0 (kq Tryd.prog (fc_n_laws_FnExactWordText aW r) I []) (([(0, .ag [.pu (.sl false 2 (e_BLrIz false aW))])], []) : St).1 (([(0, .ag [.pu (.sl false 2 (e_BLrIz false aW))])], []) : St).2 := by
  unfold n_laws_FnExactWordText at h
  refine bind_elim h (fun v11_0 c1 h => ?_)
  refine bif_elim h (fun c2 h => ?_) (fun c2 h => ?_)
  · cases h
    exact wayR 200 [.call (n_laws_szWord_ok c1), .br c2, .fin0] (by kernel_rfl)
  · refine bind_elim h (fun v16_0 c3 h => ?_)
    refine bind_elim h (fun v17_0 c4 h => ?_)
    refine bind_elim h (fun v21_0 c5 h => ?_)
    refine bind_elim h (fun v24_0 c6 h => ?_)
    refine bif_elim h (fun c7 h => ?_) (fun c7 h => ?_)
    · refine bif_elim h (fun c8 h => ?_) (fun c8 h => ?_)
      · refine bind_elim h (fun v37_0 c9 h => ?_)
        refine bind_elim h (fun v38_0 c10 h => ?_)
        refine bif_elim h (fun c11 h => ?_) (fun c11 h => ?_)
        · cases h
          exact wayR 200 [.call (n_laws_szWord_ok c1), .br c2, .call (n_laws_toWord_ok c3), .pub (pub_ok k_BLrIz false v16_0), .call (n_spec_WordText_ok c4), .call (n_laws_toWord_ok c5), .pub (pub_ok k_BLrIz false v21_0), .call (n_impl_WordText_ok c6), .br (congrArg not c7), .br (congrArg not c7), .br (congrArg not c7), .br (congrArg not c7), .br (congrArg not c8), .call (n_laws_toWord_ok c9), .pub (pub_ok k_BLrIz false v21_0), .pub (pub_ok k_BLrIz false v37_0), .call (n_laws_eqWord_ok c10), .br (congrArg not c11), .fin0] (by kernel_rfl)
        · cases h
          exact wayR 200 [.call (n_laws_szWord_ok c1), .br c2, .call (n_laws_toWord_ok c3), .pub (pub_ok k_BLrIz false v16_0), .call (n_spec_WordText_ok c4), .call (n_laws_toWord_ok c5), .pub (pub_ok k_BLrIz false v21_0), .call (n_impl_WordText_ok c6), .br (congrArg not c7), .br (congrArg not c7), .br (congrArg not c7), .br (congrArg not c7), .br (congrArg not c8), .call (n_laws_toWord_ok c9), .pub (pub_ok k_BLrIz false v21_0), .pub (pub_ok k_BLrIz false v37_0), .call (n_laws_eqWord_ok c10), .br (congrArg not c11), .fin0] (by kernel_rfl)
      · cases h
        exact wayR 200 [.call (n_laws_szWord_ok c1), .br c2, .call (n_laws_toWord_ok c3), .pub (pub_ok k_BLrIz false v16_0), .call (n_spec_WordText_ok c4), .call (n_laws_toWord_ok c5), .pub (pub_ok k_BLrIz false v21_0), .call (n_impl_WordText_ok c6), .br (congrArg not c7), .br (congrArg not c7), .br (congrArg not c7), .br (congrArg not c7), .br (congrArg not c8), .fin0] (by kernel_rfl)
    · cases h
      exact wayR 200 [.call (n_laws_szWord_ok c1), .br c2, .call (n_laws_toWord_ok c3), .pub (pub_ok k_BLrIz false v16_0), .call (n_spec_WordText_ok c4), .call (n_laws_toWord_ok c5), .pub (pub_ok k_BLrIz false v21_0), .call (n_impl_WordText_ok c6), .br (congrArg not c7), .br (congrArg not c7), .br (congrArg not c7), .br (congrArg not c7), .lit true, .fin0] (by kernel_rfl)
theorem n_laws_FnExactWordText_ok   {aW : List (Bool × List T_rI)} {r : Bool} (h : n_laws_FnExactWordText  aW = some r) : Sound Tryd.prog F_laws_FnExactWordText [.v (.ag [.sl false 2 (e_BLrIz false aW)])] (.val (.bool r)) [.v (.ag [.sl false 2 (e_BLrIz false aW)])] :=
  soundX hmix ok_laws_FnExactWordText (fc := (fc_n_laws_FnExactWordText aW r)) rfl (S₀ := []) rfl rfl (n_laws_FnExactWordText_way  h)

end Go.Proofs.YtcaemkcglflmnaaDoor.Vm
