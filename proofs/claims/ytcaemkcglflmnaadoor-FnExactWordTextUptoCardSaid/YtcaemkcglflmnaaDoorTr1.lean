/-
  Functions of the program as plain functions, each with the proof that the program does what it tells. Printed by tr.py. Conditions: none.
-/
import Derived.Test.YtcaemkcglflmnaaDoorTr0
import Derived.Test.YtcaemkcglflmnaaDoorHand
namespace Go.Proofs.YtcaemkcglflmnaaDoor.Vm
open Go Go.Proofs
set_option linter.unusedVariables false
set_option linter.unusedSimpArgs false
set_option maxRecDepth 4000
abbrev c_impl_compare_r0 : CC := .reg [
    ⟨(some 4), none, .mv (.c (.int .i64 0))⟩]
abbrev c_impl_compare_r1 : CC := .reg [
    ⟨(some 6), none, .mv (.t 0)⟩,
    ⟨(some 7), none, .mv (.t 1)⟩,
    ⟨(some 8), none, .bin .lss (.t 6) (.t 7)⟩,
    ⟨(some 5), none, .mv (.t 8)⟩]
abbrev c_impl_compare_r2 : CC := .reg [
    ⟨(some 4), none, .mv (.c (.int .i64 (-1)))⟩]
abbrev c_impl_compare_r3 : CC := .reg [
    ⟨(some 10), none, .mv (.t 0)⟩,
    ⟨(some 11), none, .mv (.t 1)⟩,
    ⟨(some 12), none, .bin .gtr (.t 10) (.t 11)⟩,
    ⟨(some 9), none, .mv (.t 12)⟩]
abbrev c_impl_compare_r4 : CC := .reg [
    ⟨(some 4), none, .mv (.c (.int .i64 1))⟩]
abbrev c_impl_compare_k12 : CC := (.cond (.t 9) (.seq c_impl_compare_r4 .ret) .skip)
abbrev c_impl_compare_k6 : CC := (.cond (.t 5) (.seq c_impl_compare_r2 .ret) (.seq c_impl_compare_r3 c_impl_compare_k12))
abbrev c_impl_compare_r5 : CC := .reg [
    ⟨(some 4), none, .mv (.c (.int .i64 0))⟩]
abbrev c_impl_compare_k17 : CC := (.seq c_impl_compare_r5 .ret)
abbrev c_impl_compare_k2 : CC := (.seq (.block 0 (.seq c_impl_compare_r1 c_impl_compare_k6)) c_impl_compare_k17)
abbrev c_impl_compare_k0 : CC := (.seq c_impl_compare_r0 c_impl_compare_k2)
abbrev c_impl_compare : CF := ⟨13, [.tmp 4], c_impl_compare_k0⟩
abbrev F_impl_compare : Nat := 101
theorem ok_impl_compare : compileF Tryd.prog 101 = some c_impl_compare := by kernel_rfl
def fc_n_impl_compare (a : Int) (b : Int) (r : Int) : FC := ⟨[.v (.val (.int .i64 a)), .v (.val (.int .i64 b))], [.tmp 4], .val (.int .i64 r), [.v (.val (.int .i64 a)), .v (.val (.int .i64 b))]⟩
def n_impl_compare  (a : Int) (b : Int) : Option Int :=
  (bif (decide (a < b)) then
    some (-1)
  else
    (bif (decide (a > b)) then
      some 1
    else
      some 0))
theorem n_impl_compare_way {I : Nat → St → Prop}   {a : Int} {b : Int} {r : Int} (h : n_impl_compare  a b = some r) : wpx Tryd.prog (FC.pn (fc_n_impl_compare a b r)) c_impl_compare_k0 (kq Tryd.prog (fc_n_impl_compare a b r) I []) (([(0, .pu (.val (.int .i64 a))), (1, .pu (.val (.int .i64 b)))], []) : St).1 (([(0, .pu (.val (.int .i64 a))), (1, .pu (.val (.int .i64 b)))], []) : St).2 := by
  unfold n_impl_compare at h
  refine bif_elim h (fun c1 h => ?_) (fun c1 h => ?_)
  · cases h
    exact wayR 200 [.br c1, .fin0] (by kernel_rfl)
  · refine bif_elim h (fun c2 h => ?_) (fun c2 h => ?_)
    · cases h
      exact wayR 200 [.br c1, .br c2, .fin0] (by kernel_rfl)
    · cases h
      exact wayR 200 [.br c1, .br c2, .fin0] (by kernel_rfl)
theorem n_impl_compare_ok   {a : Int} {b : Int} {r : Int} (h : n_impl_compare  a b = some r) : Sound Tryd.prog F_impl_compare [.v (.val (.int .i64 a)), .v (.val (.int .i64 b))] (.val (.int .i64 r)) [.v (.val (.int .i64 a)), .v (.val (.int .i64 b))] :=
  soundX hmix ok_impl_compare (fc := (fc_n_impl_compare a b r)) rfl (S₀ := []) rfl rfl (n_impl_compare_way  h)

abbrev c_impl_cmp_r0 : CC := .reg [
    ⟨(some 2), none, .box (.t 0)⟩,
    ⟨(some 3), none, .box (.t 1)⟩,
    ⟨(some 4), none, .mv (.c (.int .i64 0))⟩]
abbrev c_impl_cmp_r1 : CC := .reg [
    ⟨(some 5), none, .fadr 0 (.t 2)⟩,
    ⟨(some 6), none, .load 1 false (.t 5)⟩,
    ⟨(some 7), none, .fadr 0 (.t 3)⟩,
    ⟨(some 8), none, .load 1 false (.t 7)⟩,
    ⟨(some 9), none, .call true (.f 65) [(.t 6), (.t 8), (.f 66)]⟩,
    ⟨(some 4), none, .mv (.t 9)⟩]
abbrev c_impl_cmp_k2 : CC := (.seq c_impl_cmp_r1 .ret)
abbrev c_impl_cmp_k0 : CC := (.seq c_impl_cmp_r0 c_impl_cmp_k2)
abbrev c_impl_cmp : CF := ⟨10, [.tmp 4], c_impl_cmp_k0⟩
abbrev F_impl_cmp : Nat := 35
theorem ok_impl_cmp : compileF Tryd.prog 35 = some c_impl_cmp := by kernel_rfl
abbrev c_slices_CompareFunc_impl_OrdinalTerm_impl_OrdinalTerm_impl_OrdinalTerm_impl_OrdinalTerm_r0 : CC := .reg [
    ⟨(some 6), none, .mv (.c (.int .i64 0))⟩]
abbrev c_slices_CompareFunc_impl_OrdinalTerm_impl_OrdinalTerm_impl_OrdinalTerm_impl_OrdinalTerm_r1 : CC := .reg [
    ⟨(some 11), none, .mv (.t 0)⟩,
    ⟨(some 12), none, .len false (.t 11)⟩,
    ⟨(some 13), none, .mv (.c (.int .i64 0))⟩]
abbrev c_slices_CompareFunc_impl_OrdinalTerm_impl_OrdinalTerm_impl_OrdinalTerm_impl_OrdinalTerm_r2 : CC := .reg [
    ⟨(some 14), none, .bin .lss (.t 13) (.t 12)⟩]
abbrev c_slices_CompareFunc_impl_OrdinalTerm_impl_OrdinalTerm_impl_OrdinalTerm_impl_OrdinalTerm_r3 : CC := .reg [
    ⟨(some 15), none, .mv (.t 13)⟩,
    ⟨(some 16), none, .iadr 2 (.t 11) (.t 13)⟩,
    ⟨(some 17), none, .load 2 true (.t 16)⟩,
    ⟨(some 8), none, .alloc [.slice none 0 0, .int .i64 0]⟩,
    ⟨(some 7), none, .mv (.t 15)⟩,
    ⟨none, none, .store 2 (.t 8) (.t 17)⟩]
abbrev c_slices_CompareFunc_impl_OrdinalTerm_impl_OrdinalTerm_impl_OrdinalTerm_impl_OrdinalTerm_r4 : CC := .reg [
    ⟨(some 18), none, .mv (.t 7)⟩,
    ⟨(some 19), none, .mv (.t 1)⟩,
    ⟨(some 20), none, .len false (.t 19)⟩,
    ⟨(some 21), none, .bin .geq (.t 18) (.t 20)⟩]
abbrev c_slices_CompareFunc_impl_OrdinalTerm_impl_OrdinalTerm_impl_OrdinalTerm_impl_OrdinalTerm_r5 : CC := .reg [
    ⟨(some 6), none, .mv (.c (.int .i64 1))⟩]
abbrev c_slices_CompareFunc_impl_OrdinalTerm_impl_OrdinalTerm_impl_OrdinalTerm_impl_OrdinalTerm_k20 : CC := (.cond (.t 21) (.seq c_slices_CompareFunc_impl_OrdinalTerm_impl_OrdinalTerm_impl_OrdinalTerm_impl_OrdinalTerm_r5 .ret) .skip)
abbrev c_slices_CompareFunc_impl_OrdinalTerm_impl_OrdinalTerm_impl_OrdinalTerm_impl_OrdinalTerm_r6 : CC := .reg [
    ⟨(some 22), none, .mv (.t 1)⟩,
    ⟨(some 23), none, .mv (.t 7)⟩,
    ⟨(some 24), none, .iadr 2 (.t 22) (.t 23)⟩,
    ⟨(some 25), none, .load 2 true (.t 24)⟩,
    ⟨(some 9), none, .alloc [.slice none 0 0, .int .i64 0]⟩,
    ⟨none, none, .store 2 (.t 9) (.t 25)⟩]
abbrev c_slices_CompareFunc_impl_OrdinalTerm_impl_OrdinalTerm_impl_OrdinalTerm_impl_OrdinalTerm_r7 : CC := .reg [
    ⟨(some 26), none, .mv (.t 2)⟩,
    ⟨(some 27), none, .load 2 true (.t 8)⟩,
    ⟨(some 28), none, .load 2 true (.t 9)⟩,
    ⟨(some 29), none, .call true (.t 26) [(.t 27), (.t 28)]⟩,
    ⟨(some 10), none, .mv (.t 29)⟩]
abbrev c_slices_CompareFunc_impl_OrdinalTerm_impl_OrdinalTerm_impl_OrdinalTerm_impl_OrdinalTerm_r8 : CC := .reg [
    ⟨(some 30), none, .mv (.t 10)⟩,
    ⟨(some 31), none, .bin .neq (.t 30) (.c (.int .i64 0))⟩]
abbrev c_slices_CompareFunc_impl_OrdinalTerm_impl_OrdinalTerm_impl_OrdinalTerm_impl_OrdinalTerm_r9 : CC := .reg [
    ⟨(some 32), none, .mv (.t 10)⟩,
    ⟨(some 6), none, .mv (.t 32)⟩]
abbrev c_slices_CompareFunc_impl_OrdinalTerm_impl_OrdinalTerm_impl_OrdinalTerm_impl_OrdinalTerm_k31 : CC := (.cond (.t 31) (.seq c_slices_CompareFunc_impl_OrdinalTerm_impl_OrdinalTerm_impl_OrdinalTerm_impl_OrdinalTerm_r9 .ret) .skip)
abbrev c_slices_CompareFunc_impl_OrdinalTerm_impl_OrdinalTerm_impl_OrdinalTerm_impl_OrdinalTerm_k29 : CC := (.seq c_slices_CompareFunc_impl_OrdinalTerm_impl_OrdinalTerm_impl_OrdinalTerm_impl_OrdinalTerm_r8 c_slices_CompareFunc_impl_OrdinalTerm_impl_OrdinalTerm_impl_OrdinalTerm_impl_OrdinalTerm_k31)
abbrev c_slices_CompareFunc_impl_OrdinalTerm_impl_OrdinalTerm_impl_OrdinalTerm_impl_OrdinalTerm_k27 : CC := (.seq c_slices_CompareFunc_impl_OrdinalTerm_impl_OrdinalTerm_impl_OrdinalTerm_impl_OrdinalTerm_r7 c_slices_CompareFunc_impl_OrdinalTerm_impl_OrdinalTerm_impl_OrdinalTerm_impl_OrdinalTerm_k29)
abbrev c_slices_CompareFunc_impl_OrdinalTerm_impl_OrdinalTerm_impl_OrdinalTerm_impl_OrdinalTerm_k25 : CC := (.seq c_slices_CompareFunc_impl_OrdinalTerm_impl_OrdinalTerm_impl_OrdinalTerm_impl_OrdinalTerm_r6 c_slices_CompareFunc_impl_OrdinalTerm_impl_OrdinalTerm_impl_OrdinalTerm_impl_OrdinalTerm_k27)
abbrev c_slices_CompareFunc_impl_OrdinalTerm_impl_OrdinalTerm_impl_OrdinalTerm_impl_OrdinalTerm_k17 : CC := (.seq (.seq c_slices_CompareFunc_impl_OrdinalTerm_impl_OrdinalTerm_impl_OrdinalTerm_impl_OrdinalTerm_r4 c_slices_CompareFunc_impl_OrdinalTerm_impl_OrdinalTerm_impl_OrdinalTerm_impl_OrdinalTerm_k20) c_slices_CompareFunc_impl_OrdinalTerm_impl_OrdinalTerm_impl_OrdinalTerm_impl_OrdinalTerm_k25)
abbrev c_slices_CompareFunc_impl_OrdinalTerm_impl_OrdinalTerm_impl_OrdinalTerm_impl_OrdinalTerm_r10 : CC := .reg [
    ⟨(some 33), none, .bin .add (.t 13) (.c (.int .i64 1))⟩,
    ⟨(some 13), none, .mv (.t 33)⟩]
abbrev c_slices_CompareFunc_impl_OrdinalTerm_impl_OrdinalTerm_impl_OrdinalTerm_impl_OrdinalTerm_k13 : CC := (.seq (.block 1 (.seq c_slices_CompareFunc_impl_OrdinalTerm_impl_OrdinalTerm_impl_OrdinalTerm_impl_OrdinalTerm_r3 c_slices_CompareFunc_impl_OrdinalTerm_impl_OrdinalTerm_impl_OrdinalTerm_impl_OrdinalTerm_k17)) c_slices_CompareFunc_impl_OrdinalTerm_impl_OrdinalTerm_impl_OrdinalTerm_impl_OrdinalTerm_r10)
abbrev c_slices_CompareFunc_impl_OrdinalTerm_impl_OrdinalTerm_impl_OrdinalTerm_impl_OrdinalTerm_k9 : CC := (.seq (.cond (.t 14) .skip (.exit 0)) c_slices_CompareFunc_impl_OrdinalTerm_impl_OrdinalTerm_impl_OrdinalTerm_impl_OrdinalTerm_k13)
abbrev c_slices_CompareFunc_impl_OrdinalTerm_impl_OrdinalTerm_impl_OrdinalTerm_impl_OrdinalTerm_k7 : CC := (.seq c_slices_CompareFunc_impl_OrdinalTerm_impl_OrdinalTerm_impl_OrdinalTerm_impl_OrdinalTerm_r2 c_slices_CompareFunc_impl_OrdinalTerm_impl_OrdinalTerm_impl_OrdinalTerm_impl_OrdinalTerm_k9)
abbrev c_slices_CompareFunc_impl_OrdinalTerm_impl_OrdinalTerm_impl_OrdinalTerm_impl_OrdinalTerm_k5 : CC := (.block 0 (.loop c_slices_CompareFunc_impl_OrdinalTerm_impl_OrdinalTerm_impl_OrdinalTerm_impl_OrdinalTerm_k7))
abbrev c_slices_CompareFunc_impl_OrdinalTerm_impl_OrdinalTerm_impl_OrdinalTerm_impl_OrdinalTerm_r11 : CC := .reg [
    ⟨(some 34), none, .mv (.t 0)⟩,
    ⟨(some 35), none, .len false (.t 34)⟩,
    ⟨(some 36), none, .mv (.t 1)⟩,
    ⟨(some 37), none, .len false (.t 36)⟩,
    ⟨(some 38), none, .bin .lss (.t 35) (.t 37)⟩]
abbrev c_slices_CompareFunc_impl_OrdinalTerm_impl_OrdinalTerm_impl_OrdinalTerm_impl_OrdinalTerm_r12 : CC := .reg [
    ⟨(some 6), none, .mv (.c (.int .i64 (-1)))⟩]
abbrev c_slices_CompareFunc_impl_OrdinalTerm_impl_OrdinalTerm_impl_OrdinalTerm_impl_OrdinalTerm_k40 : CC := (.cond (.t 38) (.seq c_slices_CompareFunc_impl_OrdinalTerm_impl_OrdinalTerm_impl_OrdinalTerm_impl_OrdinalTerm_r12 .ret) .skip)
abbrev c_slices_CompareFunc_impl_OrdinalTerm_impl_OrdinalTerm_impl_OrdinalTerm_impl_OrdinalTerm_r13 : CC := .reg [
    ⟨(some 6), none, .mv (.c (.int .i64 0))⟩]
abbrev c_slices_CompareFunc_impl_OrdinalTerm_impl_OrdinalTerm_impl_OrdinalTerm_impl_OrdinalTerm_k45 : CC := (.seq c_slices_CompareFunc_impl_OrdinalTerm_impl_OrdinalTerm_impl_OrdinalTerm_impl_OrdinalTerm_r13 .ret)
abbrev c_slices_CompareFunc_impl_OrdinalTerm_impl_OrdinalTerm_impl_OrdinalTerm_impl_OrdinalTerm_k37 : CC := (.seq (.seq c_slices_CompareFunc_impl_OrdinalTerm_impl_OrdinalTerm_impl_OrdinalTerm_impl_OrdinalTerm_r11 c_slices_CompareFunc_impl_OrdinalTerm_impl_OrdinalTerm_impl_OrdinalTerm_impl_OrdinalTerm_k40) c_slices_CompareFunc_impl_OrdinalTerm_impl_OrdinalTerm_impl_OrdinalTerm_impl_OrdinalTerm_k45)
abbrev c_slices_CompareFunc_impl_OrdinalTerm_impl_OrdinalTerm_impl_OrdinalTerm_impl_OrdinalTerm_k2 : CC := (.seq (.seq c_slices_CompareFunc_impl_OrdinalTerm_impl_OrdinalTerm_impl_OrdinalTerm_impl_OrdinalTerm_r1 c_slices_CompareFunc_impl_OrdinalTerm_impl_OrdinalTerm_impl_OrdinalTerm_impl_OrdinalTerm_k5) c_slices_CompareFunc_impl_OrdinalTerm_impl_OrdinalTerm_impl_OrdinalTerm_impl_OrdinalTerm_k37)
abbrev c_slices_CompareFunc_impl_OrdinalTerm_impl_OrdinalTerm_impl_OrdinalTerm_impl_OrdinalTerm_k0 : CC := (.seq c_slices_CompareFunc_impl_OrdinalTerm_impl_OrdinalTerm_impl_OrdinalTerm_impl_OrdinalTerm_r0 c_slices_CompareFunc_impl_OrdinalTerm_impl_OrdinalTerm_impl_OrdinalTerm_impl_OrdinalTerm_k2)
abbrev c_slices_CompareFunc_impl_OrdinalTerm_impl_OrdinalTerm_impl_OrdinalTerm_impl_OrdinalTerm : CF := ⟨39, [.tmp 6], c_slices_CompareFunc_impl_OrdinalTerm_impl_OrdinalTerm_impl_OrdinalTerm_impl_OrdinalTerm_k0⟩
abbrev F_slices_CompareFunc_impl_OrdinalTerm_impl_OrdinalTerm_impl_OrdinalTerm_impl_OrdinalTerm : Nat := 65
theorem ok_slices_CompareFunc_impl_OrdinalTerm_impl_OrdinalTerm_impl_OrdinalTerm_impl_OrdinalTerm : compileF Tryd.prog 65 = some c_slices_CompareFunc_impl_OrdinalTerm_impl_OrdinalTerm_impl_OrdinalTerm_impl_OrdinalTerm := by kernel_rfl
abbrev c_impl_cmpTerms_r0 : CC := .reg [
    ⟨(some 2), none, .box (.t 0)⟩,
    ⟨(some 3), none, .box (.t 1)⟩,
    ⟨(some 4), none, .mv (.c (.int .i64 0))⟩]
abbrev c_impl_cmpTerms_r1 : CC := .reg [
    ⟨(some 6), none, .fadr 0 (.t 2)⟩,
    ⟨(some 7), none, .load 1 true (.t 6)⟩,
    ⟨(some 8), none, .fadr 0 (.t 3)⟩,
    ⟨(some 9), none, .load 1 true (.t 8)⟩,
    ⟨(some 10), none, .call true (.f 35) [(.t 7), (.t 9)]⟩,
    ⟨(some 5), none, .mv (.t 10)⟩]
abbrev c_impl_cmpTerms_r2 : CC := .reg [
    ⟨(some 11), none, .mv (.t 5)⟩,
    ⟨(some 12), none, .bin .neq (.t 11) (.c (.int .i64 0))⟩]
abbrev c_impl_cmpTerms_r3 : CC := .reg [
    ⟨(some 13), none, .mv (.t 5)⟩,
    ⟨(some 4), none, .mv (.t 13)⟩]
abbrev c_impl_cmpTerms_k7 : CC := (.cond (.t 12) (.seq c_impl_cmpTerms_r3 .ret) .skip)
abbrev c_impl_cmpTerms_k5 : CC := (.seq c_impl_cmpTerms_r2 c_impl_cmpTerms_k7)
abbrev c_impl_cmpTerms_r4 : CC := .reg [
    ⟨(some 14), none, .fadr 1 (.t 2)⟩,
    ⟨(some 15), none, .load 1 false (.t 14)⟩,
    ⟨(some 16), none, .fadr 1 (.t 3)⟩,
    ⟨(some 17), none, .load 1 false (.t 16)⟩,
    ⟨(some 18), none, .call true (.f 101) [(.t 15), (.t 17)]⟩,
    ⟨(some 4), none, .mv (.t 18)⟩]
abbrev c_impl_cmpTerms_k12 : CC := (.seq c_impl_cmpTerms_r4 .ret)
abbrev c_impl_cmpTerms_k2 : CC := (.seq (.seq c_impl_cmpTerms_r1 c_impl_cmpTerms_k5) c_impl_cmpTerms_k12)
abbrev c_impl_cmpTerms_k0 : CC := (.seq c_impl_cmpTerms_r0 c_impl_cmpTerms_k2)
abbrev c_impl_cmpTerms : CF := ⟨19, [.tmp 4], c_impl_cmpTerms_k0⟩
abbrev F_impl_cmpTerms : Nat := 66
theorem ok_impl_cmpTerms : compileF Tryd.prog 66 = some c_impl_cmpTerms := by kernel_rfl
def fc_n_impl_cmp (a : List T_rI) (b : List T_rI) (r : Int) : FC := ⟨[.v (.ag [.sl false 2 (e_rI false a)]), .v (.ag [.sl false 2 (e_rI false b)])], [.tmp 4], .val (.int .i64 r), [.v (.ag [.sl false 2 (e_rI false a)]), .v (.ag [.sl false 2 (e_rI false b)])]⟩
def n_impl_cmp_B (rf_n_impl_cmp : List T_rI → List T_rI → Option Int) (rf_n_slices_CompareFunc_impl_OrdinalTerm_impl_OrdinalTerm_impl_OrdinalTerm_impl_OrdinalTerm_v0 : List T_rI → List T_rI → Option Int) (rf_n_impl_cmpTerms : List T_rI → Int → List T_rI → Int → Option Int) (a : List T_rI) (b : List T_rI) : Option Int :=
  ((rf_n_slices_CompareFunc_impl_OrdinalTerm_impl_OrdinalTerm_impl_OrdinalTerm_impl_OrdinalTerm_v0 a b).bind fun (v9_0 : Int) =>
  some v9_0)
theorem n_impl_cmp_B_way {I : Nat → St → Prop} {rf_n_impl_cmp : List T_rI → List T_rI → Option Int} {rf_n_slices_CompareFunc_impl_OrdinalTerm_impl_OrdinalTerm_impl_OrdinalTerm_impl_OrdinalTerm_v0 : List T_rI → List T_rI → Option Int} {rf_n_impl_cmpTerms : List T_rI → Int → List T_rI → Int → Option Int} (hrf_n_impl_cmp : ∀ (a : List T_rI) (b : List T_rI) (r : Int), rf_n_impl_cmp a b = some r → Sound Tryd.prog F_impl_cmp [.v (.ag [.sl false 2 (e_rI false a)]), .v (.ag [.sl false 2 (e_rI false b)])] (.val (.int .i64 r)) [.v (.ag [.sl false 2 (e_rI false a)]), .v (.ag [.sl false 2 (e_rI false b)])]) (hrf_n_slices_CompareFunc_impl_OrdinalTerm_impl_OrdinalTerm_impl_OrdinalTerm_impl_OrdinalTerm_v0 : ∀ (s1 : List T_rI) (s2 : List T_rI) (r : Int), rf_n_slices_CompareFunc_impl_OrdinalTerm_impl_OrdinalTerm_impl_OrdinalTerm_impl_OrdinalTerm_v0 s1 s2 = some r → Sound Tryd.prog F_slices_CompareFunc_impl_OrdinalTerm_impl_OrdinalTerm_impl_OrdinalTerm_impl_OrdinalTerm [.v (.sl false 2 (e_rI false s1)), .v (.sl false 2 (e_rI false s2)), .v (.cl 66 [])] (.val (.int .i64 r)) [.v (.sl false 2 (e_rI false s1)), .v (.sl false 2 (e_rI false s2)), .v (.cl 66 [])]) (hrf_n_impl_cmpTerms : ∀ (a : List T_rI) (a2 : Int) (b : List T_rI) (b2 : Int) (r : Int), rf_n_impl_cmpTerms a a2 b b2 = some r → Sound Tryd.prog F_impl_cmpTerms [.v (.ag [.sl false 2 (e_rI false a), .val (.int .i64 a2)]), .v (.ag [.sl false 2 (e_rI false b), .val (.int .i64 b2)])] (.val (.int .i64 r)) [.v (.ag [.sl false 2 (e_rI false a), .val (.int .i64 a2)]), .v (.ag [.sl false 2 (e_rI false b), .val (.int .i64 b2)])]) {a : List T_rI} {b : List T_rI} {r : Int} (h : n_impl_cmp_B rf_n_impl_cmp rf_n_slices_CompareFunc_impl_OrdinalTerm_impl_OrdinalTerm_impl_OrdinalTerm_impl_OrdinalTerm_v0 rf_n_impl_cmpTerms a b = some r) : wpx Tryd.prog (FC.pn (fc_n_impl_cmp a b r)) c_impl_cmp_k0 (kq Tryd.prog (fc_n_impl_cmp a b r) I []) (([(0, .ag [.pu (.sl false 2 (e_rI false a))]), (1, .ag [.pu (.sl false 2 (e_rI false b))])], []) : St).1 (([(0, .ag [.pu (.sl false 2 (e_rI false a))]), (1, .ag [.pu (.sl false 2 (e_rI false b))])], []) : St).2 := by
  unfold n_impl_cmp_B at h
  refine bind_elim h (fun v9_0 c1 h => ?_)
  cases h
  exact wayR 200 [.call (hrf_n_slices_CompareFunc_impl_OrdinalTerm_impl_OrdinalTerm_impl_OrdinalTerm_impl_OrdinalTerm_v0 _ _ _ c1), .fin0] (by kernel_rfl)
theorem n_impl_cmp_B_ok {rf_n_impl_cmp : List T_rI → List T_rI → Option Int} {rf_n_slices_CompareFunc_impl_OrdinalTerm_impl_OrdinalTerm_impl_OrdinalTerm_impl_OrdinalTerm_v0 : List T_rI → List T_rI → Option Int} {rf_n_impl_cmpTerms : List T_rI → Int → List T_rI → Int → Option Int} (hrf_n_impl_cmp : ∀ (a : List T_rI) (b : List T_rI) (r : Int), rf_n_impl_cmp a b = some r → Sound Tryd.prog F_impl_cmp [.v (.ag [.sl false 2 (e_rI false a)]), .v (.ag [.sl false 2 (e_rI false b)])] (.val (.int .i64 r)) [.v (.ag [.sl false 2 (e_rI false a)]), .v (.ag [.sl false 2 (e_rI false b)])]) (hrf_n_slices_CompareFunc_impl_OrdinalTerm_impl_OrdinalTerm_impl_OrdinalTerm_impl_OrdinalTerm_v0 : ∀ (s1 : List T_rI) (s2 : List T_rI) (r : Int), rf_n_slices_CompareFunc_impl_OrdinalTerm_impl_OrdinalTerm_impl_OrdinalTerm_impl_OrdinalTerm_v0 s1 s2 = some r → Sound Tryd.prog F_slices_CompareFunc_impl_OrdinalTerm_impl_OrdinalTerm_impl_OrdinalTerm_impl_OrdinalTerm [.v (.sl false 2 (e_rI false s1)), .v (.sl false 2 (e_rI false s2)), .v (.cl 66 [])] (.val (.int .i64 r)) [.v (.sl false 2 (e_rI false s1)), .v (.sl false 2 (e_rI false s2)), .v (.cl 66 [])]) (hrf_n_impl_cmpTerms : ∀ (a : List T_rI) (a2 : Int) (b : List T_rI) (b2 : Int) (r : Int), rf_n_impl_cmpTerms a a2 b b2 = some r → Sound Tryd.prog F_impl_cmpTerms [.v (.ag [.sl false 2 (e_rI false a), .val (.int .i64 a2)]), .v (.ag [.sl false 2 (e_rI false b), .val (.int .i64 b2)])] (.val (.int .i64 r)) [.v (.ag [.sl false 2 (e_rI false a), .val (.int .i64 a2)]), .v (.ag [.sl false 2 (e_rI false b), .val (.int .i64 b2)])]) {a : List T_rI} {b : List T_rI} {r : Int} (h : n_impl_cmp_B rf_n_impl_cmp rf_n_slices_CompareFunc_impl_OrdinalTerm_impl_OrdinalTerm_impl_OrdinalTerm_impl_OrdinalTerm_v0 rf_n_impl_cmpTerms a b = some r) : Sound Tryd.prog F_impl_cmp [.v (.ag [.sl false 2 (e_rI false a)]), .v (.ag [.sl false 2 (e_rI false b)])] (.val (.int .i64 r)) [.v (.ag [.sl false 2 (e_rI false a)]), .v (.ag [.sl false 2 (e_rI false b)])] :=
  soundX hmix ok_impl_cmp (fc := (fc_n_impl_cmp a b r)) rfl (S₀ := []) rfl rfl (n_impl_cmp_B_way hrf_n_impl_cmp hrf_n_slices_CompareFunc_impl_OrdinalTerm_impl_OrdinalTerm_impl_OrdinalTerm_impl_OrdinalTerm_v0 hrf_n_impl_cmpTerms h)
def fc_n_slices_CompareFunc_impl_OrdinalTerm_impl_OrdinalTerm_impl_OrdinalTerm_impl_OrdinalTerm_v0 (s1 : List T_rI) (s2 : List T_rI) (r : Int) : FC := ⟨[.v (.sl false 2 (e_rI false s1)), .v (.sl false 2 (e_rI false s2)), .v (.cl 66 [])], [.tmp 6], .val (.int .i64 r), [.v (.sl false 2 (e_rI false s1)), .v (.sl false 2 (e_rI false s2)), .v (.cl 66 [])]⟩
def T_n_slices_CompareFunc_impl_OrdinalTerm_impl_OrdinalTerm_impl_OrdinalTerm_impl_OrdinalTerm_v0_6 (s1 : List T_rI) (s2 : List T_rI) (x_k6_0 : Int) : St := ([(0, .pu (.sl false 2 (e_rI false s1))), (1, .pu (.sl false 2 (e_rI false s2))), (2, .pu (.cl 66 [])), (11, .pu (.sl false 2 (e_rI false s1))), (12, .pu (.val (.int .i64 (s1.length : Int)))), (13, .pu (.val (.int .i64 x_k6_0)))], [])
def n_slices_CompareFunc_impl_OrdinalTerm_impl_OrdinalTerm_impl_OrdinalTerm_impl_OrdinalTerm_v0_b6 (rf_n_impl_cmp : List T_rI → List T_rI → Option Int) (rf_n_slices_CompareFunc_impl_OrdinalTerm_impl_OrdinalTerm_impl_OrdinalTerm_impl_OrdinalTerm_v0 : List T_rI → List T_rI → Option Int) (rf_n_impl_cmpTerms : List T_rI → Int → List T_rI → Int → Option Int)  (k6 : List T_rI → List T_rI → Int → Option Int) (s1 : List T_rI) (s2 : List T_rI) (x_k6_0 : Int) : Option Int :=
  (bif (decide (x_k6_0 < (s1.length : Int))) then
    ((idx s1 x_k6_0).bind fun (v16_6 : T_rI) =>
    (bif (decide (x_k6_0 ≥ (s2.length : Int))) then
      some 1
    else
      ((idx s2 x_k6_0).bind fun (v24_6 : T_rI) =>
      ((rf_n_impl_cmpTerms v16_6.c0 v16_6.c1 v24_6.c0 v24_6.c1).bind fun (v29_6 : Int) =>
      (bif (decide (v29_6 = 0)) then
        k6 s1 s2 (wr (x_k6_0 + 1))
      else
        some v29_6)))))
  else
    (bif (decide ((s1.length : Int) < (s2.length : Int))) then
      some (-1)
    else
      some 0))
def n_slices_CompareFunc_impl_OrdinalTerm_impl_OrdinalTerm_impl_OrdinalTerm_impl_OrdinalTerm_v0_l6 (rf_n_impl_cmp : List T_rI → List T_rI → Option Int) (rf_n_slices_CompareFunc_impl_OrdinalTerm_impl_OrdinalTerm_impl_OrdinalTerm_impl_OrdinalTerm_v0 : List T_rI → List T_rI → Option Int) (rf_n_impl_cmpTerms : List T_rI → Int → List T_rI → Int → Option Int)  : Nat → List T_rI → List T_rI → Int → Option Int
  | 0, _, _, _ => none
  | n + 1, s1, s2, x_k6_0 => n_slices_CompareFunc_impl_OrdinalTerm_impl_OrdinalTerm_impl_OrdinalTerm_impl_OrdinalTerm_v0_b6 rf_n_impl_cmp rf_n_slices_CompareFunc_impl_OrdinalTerm_impl_OrdinalTerm_impl_OrdinalTerm_impl_OrdinalTerm_v0 rf_n_impl_cmpTerms  (n_slices_CompareFunc_impl_OrdinalTerm_impl_OrdinalTerm_impl_OrdinalTerm_impl_OrdinalTerm_v0_l6 rf_n_impl_cmp rf_n_slices_CompareFunc_impl_OrdinalTerm_impl_OrdinalTerm_impl_OrdinalTerm_impl_OrdinalTerm_v0 rf_n_impl_cmpTerms  n) s1 s2 x_k6_0
theorem n_slices_CompareFunc_impl_OrdinalTerm_impl_OrdinalTerm_impl_OrdinalTerm_impl_OrdinalTerm_v0_b6_ok {I : Nat → St → Prop} {rf_n_impl_cmp : List T_rI → List T_rI → Option Int} {rf_n_slices_CompareFunc_impl_OrdinalTerm_impl_OrdinalTerm_impl_OrdinalTerm_impl_OrdinalTerm_v0 : List T_rI → List T_rI → Option Int} {rf_n_impl_cmpTerms : List T_rI → Int → List T_rI → Int → Option Int} (hrf_n_impl_cmp : ∀ (a : List T_rI) (b : List T_rI) (r : Int), rf_n_impl_cmp a b = some r → Sound Tryd.prog F_impl_cmp [.v (.ag [.sl false 2 (e_rI false a)]), .v (.ag [.sl false 2 (e_rI false b)])] (.val (.int .i64 r)) [.v (.ag [.sl false 2 (e_rI false a)]), .v (.ag [.sl false 2 (e_rI false b)])]) (hrf_n_slices_CompareFunc_impl_OrdinalTerm_impl_OrdinalTerm_impl_OrdinalTerm_impl_OrdinalTerm_v0 : ∀ (s1 : List T_rI) (s2 : List T_rI) (r : Int), rf_n_slices_CompareFunc_impl_OrdinalTerm_impl_OrdinalTerm_impl_OrdinalTerm_impl_OrdinalTerm_v0 s1 s2 = some r → Sound Tryd.prog F_slices_CompareFunc_impl_OrdinalTerm_impl_OrdinalTerm_impl_OrdinalTerm_impl_OrdinalTerm [.v (.sl false 2 (e_rI false s1)), .v (.sl false 2 (e_rI false s2)), .v (.cl 66 [])] (.val (.int .i64 r)) [.v (.sl false 2 (e_rI false s1)), .v (.sl false 2 (e_rI false s2)), .v (.cl 66 [])]) (hrf_n_impl_cmpTerms : ∀ (a : List T_rI) (a2 : Int) (b : List T_rI) (b2 : Int) (r : Int), rf_n_impl_cmpTerms a a2 b b2 = some r → Sound Tryd.prog F_impl_cmpTerms [.v (.ag [.sl false 2 (e_rI false a), .val (.int .i64 a2)]), .v (.ag [.sl false 2 (e_rI false b), .val (.int .i64 b2)])] (.val (.int .i64 r)) [.v (.ag [.sl false 2 (e_rI false a), .val (.int .i64 a2)]), .v (.ag [.sl false 2 (e_rI false b), .val (.int .i64 b2)])])  {s1_0 : List T_rI} {s2_0 : List T_rI} {r : Int}  {k6 : List T_rI → List T_rI → Int → Option Int} (hI6 : ∀ (s1 : List T_rI) (s2 : List T_rI) (x_k6_0 : Int), k6 s1 s2 x_k6_0 = some r → I 1 (T_n_slices_CompareFunc_impl_OrdinalTerm_impl_OrdinalTerm_impl_OrdinalTerm_impl_OrdinalTerm_v0_6 s1 s2 x_k6_0)) {s1 : List T_rI} {s2 : List T_rI} {x_k6_0 : Int} (h : n_slices_CompareFunc_impl_OrdinalTerm_impl_OrdinalTerm_impl_OrdinalTerm_impl_OrdinalTerm_v0_b6 rf_n_impl_cmp rf_n_slices_CompareFunc_impl_OrdinalTerm_impl_OrdinalTerm_impl_OrdinalTerm_impl_OrdinalTerm_v0 rf_n_impl_cmpTerms  k6 s1 s2 x_k6_0 = some r) : wpx Tryd.prog (FC.pn (fc_n_slices_CompareFunc_impl_OrdinalTerm_impl_OrdinalTerm_impl_OrdinalTerm_impl_OrdinalTerm_v0 s1_0 s2_0 r)) c_slices_CompareFunc_impl_OrdinalTerm_impl_OrdinalTerm_impl_OrdinalTerm_impl_OrdinalTerm_k7 (kq Tryd.prog (fc_n_slices_CompareFunc_impl_OrdinalTerm_impl_OrdinalTerm_impl_OrdinalTerm_impl_OrdinalTerm_v0 s1_0 s2_0 r) I [.lp 1, .blk 0, .sq c_slices_CompareFunc_impl_OrdinalTerm_impl_OrdinalTerm_impl_OrdinalTerm_impl_OrdinalTerm_k37]) (T_n_slices_CompareFunc_impl_OrdinalTerm_impl_OrdinalTerm_impl_OrdinalTerm_impl_OrdinalTerm_v0_6 s1 s2 x_k6_0).1 (T_n_slices_CompareFunc_impl_OrdinalTerm_impl_OrdinalTerm_impl_OrdinalTerm_impl_OrdinalTerm_v0_6 s1 s2 x_k6_0).2 := by
  unfold n_slices_CompareFunc_impl_OrdinalTerm_impl_OrdinalTerm_impl_OrdinalTerm_impl_OrdinalTerm_v0_b6 at h
  refine bif_elim h (fun c1 h => ?_) (fun c1 h => ?_)
  · refine bind_elim h (fun v16_6 c2 h => ?_)
    refine bif_elim h (fun c3 h => ?_) (fun c3 h => ?_)
    · cases h
      exact wayR 200 [.br c1, .row (row_ok k_rI (o := false) c2), .len (len_ok k_rI false s2), .br c3, .fin0] (by kernel_rfl)
    · refine bind_elim h (fun v24_6 c4 h => ?_)
      refine bind_elim h (fun v29_6 c5 h => ?_)
      refine bif_elim h (fun c6 h => ?_) (fun c6 h => ?_)
      · exact wayB 200 [.br c1, .row (row_ok k_rI (o := false) c2), .len (len_ok k_rI false s2), .br c3, .row (row_ok k_rI (o := false) c4), .call (hrf_n_impl_cmpTerms _ _ _ _ _ c5), .br (congrArg not c6), .stop [] (T_n_slices_CompareFunc_impl_OrdinalTerm_impl_OrdinalTerm_impl_OrdinalTerm_impl_OrdinalTerm_v0_6 s1 s2 (wr (x_k6_0 + 1)))] 1 (hI6 _ _ _ h) (by kernel_rfl)
      · cases h
        exact wayR 200 [.br c1, .row (row_ok k_rI (o := false) c2), .len (len_ok k_rI false s2), .br c3, .row (row_ok k_rI (o := false) c4), .call (hrf_n_impl_cmpTerms _ _ _ _ _ c5), .br (congrArg not c6), .fin0] (by kernel_rfl)
  · refine bif_elim h (fun c7 h => ?_) (fun c7 h => ?_)
    · cases h
      exact wayR 200 [.br c1, .len (len_ok k_rI false s1), .len (len_ok k_rI false s2), .br c7, .fin0] (by kernel_rfl)
    · cases h
      exact wayR 200 [.br c1, .len (len_ok k_rI false s1), .len (len_ok k_rI false s2), .br c7, .fin0] (by kernel_rfl)
theorem n_slices_CompareFunc_impl_OrdinalTerm_impl_OrdinalTerm_impl_OrdinalTerm_impl_OrdinalTerm_v0_l6_ok {I : Nat → St → Prop} {rf_n_impl_cmp : List T_rI → List T_rI → Option Int} {rf_n_slices_CompareFunc_impl_OrdinalTerm_impl_OrdinalTerm_impl_OrdinalTerm_impl_OrdinalTerm_v0 : List T_rI → List T_rI → Option Int} {rf_n_impl_cmpTerms : List T_rI → Int → List T_rI → Int → Option Int} (hrf_n_impl_cmp : ∀ (a : List T_rI) (b : List T_rI) (r : Int), rf_n_impl_cmp a b = some r → Sound Tryd.prog F_impl_cmp [.v (.ag [.sl false 2 (e_rI false a)]), .v (.ag [.sl false 2 (e_rI false b)])] (.val (.int .i64 r)) [.v (.ag [.sl false 2 (e_rI false a)]), .v (.ag [.sl false 2 (e_rI false b)])]) (hrf_n_slices_CompareFunc_impl_OrdinalTerm_impl_OrdinalTerm_impl_OrdinalTerm_impl_OrdinalTerm_v0 : ∀ (s1 : List T_rI) (s2 : List T_rI) (r : Int), rf_n_slices_CompareFunc_impl_OrdinalTerm_impl_OrdinalTerm_impl_OrdinalTerm_impl_OrdinalTerm_v0 s1 s2 = some r → Sound Tryd.prog F_slices_CompareFunc_impl_OrdinalTerm_impl_OrdinalTerm_impl_OrdinalTerm_impl_OrdinalTerm [.v (.sl false 2 (e_rI false s1)), .v (.sl false 2 (e_rI false s2)), .v (.cl 66 [])] (.val (.int .i64 r)) [.v (.sl false 2 (e_rI false s1)), .v (.sl false 2 (e_rI false s2)), .v (.cl 66 [])]) (hrf_n_impl_cmpTerms : ∀ (a : List T_rI) (a2 : Int) (b : List T_rI) (b2 : Int) (r : Int), rf_n_impl_cmpTerms a a2 b b2 = some r → Sound Tryd.prog F_impl_cmpTerms [.v (.ag [.sl false 2 (e_rI false a), .val (.int .i64 a2)]), .v (.ag [.sl false 2 (e_rI false b), .val (.int .i64 b2)])] (.val (.int .i64 r)) [.v (.ag [.sl false 2 (e_rI false a), .val (.int .i64 a2)]), .v (.ag [.sl false 2 (e_rI false b), .val (.int .i64 b2)])])  {s1_0 : List T_rI} {s2_0 : List T_rI} {r : Int}  : ∀ (n : Nat) (s1 : List T_rI) (s2 : List T_rI) (x_k6_0 : Int), n_slices_CompareFunc_impl_OrdinalTerm_impl_OrdinalTerm_impl_OrdinalTerm_impl_OrdinalTerm_v0_l6 rf_n_impl_cmp rf_n_slices_CompareFunc_impl_OrdinalTerm_impl_OrdinalTerm_impl_OrdinalTerm_impl_OrdinalTerm_v0 rf_n_impl_cmpTerms  n s1 s2 x_k6_0 = some r → wpx Tryd.prog (FC.pn (fc_n_slices_CompareFunc_impl_OrdinalTerm_impl_OrdinalTerm_impl_OrdinalTerm_impl_OrdinalTerm_v0 s1_0 s2_0 r)) (.loop c_slices_CompareFunc_impl_OrdinalTerm_impl_OrdinalTerm_impl_OrdinalTerm_impl_OrdinalTerm_k7) (kq Tryd.prog (fc_n_slices_CompareFunc_impl_OrdinalTerm_impl_OrdinalTerm_impl_OrdinalTerm_impl_OrdinalTerm_v0 s1_0 s2_0 r) I [.blk 0, .sq c_slices_CompareFunc_impl_OrdinalTerm_impl_OrdinalTerm_impl_OrdinalTerm_impl_OrdinalTerm_k37]) (T_n_slices_CompareFunc_impl_OrdinalTerm_impl_OrdinalTerm_impl_OrdinalTerm_impl_OrdinalTerm_v0_6 s1 s2 x_k6_0).1 (T_n_slices_CompareFunc_impl_OrdinalTerm_impl_OrdinalTerm_impl_OrdinalTerm_impl_OrdinalTerm_v0_6 s1 s2 x_k6_0).2 := by
  intro n s1 s2 x_k6_0 h
  exact loopN (fc := (fc_n_slices_CompareFunc_impl_OrdinalTerm_impl_OrdinalTerm_impl_OrdinalTerm_impl_OrdinalTerm_v0 s1_0 s2_0 r)) (I := I) (j := 1) (V := List T_rI × List T_rI × Int) (fun n v => n_slices_CompareFunc_impl_OrdinalTerm_impl_OrdinalTerm_impl_OrdinalTerm_impl_OrdinalTerm_v0_l6 rf_n_impl_cmp rf_n_slices_CompareFunc_impl_OrdinalTerm_impl_OrdinalTerm_impl_OrdinalTerm_impl_OrdinalTerm_v0 rf_n_impl_cmpTerms  n v.1 v.2.1 v.2.2) (fun v => T_n_slices_CompareFunc_impl_OrdinalTerm_impl_OrdinalTerm_impl_OrdinalTerm_impl_OrdinalTerm_v0_6 v.1 v.2.1 v.2.2) r (fun v h => by simp [n_slices_CompareFunc_impl_OrdinalTerm_impl_OrdinalTerm_impl_OrdinalTerm_impl_OrdinalTerm_v0_l6] at h) (fun n v h I' hne hI' => n_slices_CompareFunc_impl_OrdinalTerm_impl_OrdinalTerm_impl_OrdinalTerm_impl_OrdinalTerm_v0_b6_ok hrf_n_impl_cmp hrf_n_slices_CompareFunc_impl_OrdinalTerm_impl_OrdinalTerm_impl_OrdinalTerm_impl_OrdinalTerm_v0 hrf_n_impl_cmpTerms  (k6 := n_slices_CompareFunc_impl_OrdinalTerm_impl_OrdinalTerm_impl_OrdinalTerm_impl_OrdinalTerm_v0_l6 rf_n_impl_cmp rf_n_slices_CompareFunc_impl_OrdinalTerm_impl_OrdinalTerm_impl_OrdinalTerm_impl_OrdinalTerm_v0 rf_n_impl_cmpTerms  n) (fun s1 s2 x_k6_0 h => hI' (s1, s2, x_k6_0) h) h) (fun I' hne => kq_congr fun i hi => hne i (notIn_ne (by rfl) i hi)) n (s1, s2, x_k6_0) h
def n_slices_CompareFunc_impl_OrdinalTerm_impl_OrdinalTerm_impl_OrdinalTerm_impl_OrdinalTerm_v0_B (rf_n_impl_cmp : List T_rI → List T_rI → Option Int) (rf_n_slices_CompareFunc_impl_OrdinalTerm_impl_OrdinalTerm_impl_OrdinalTerm_impl_OrdinalTerm_v0 : List T_rI → List T_rI → Option Int) (rf_n_impl_cmpTerms : List T_rI → Int → List T_rI → Int → Option Int) (s1 : List T_rI) (s2 : List T_rI) : Option Int :=
  n_slices_CompareFunc_impl_OrdinalTerm_impl_OrdinalTerm_impl_OrdinalTerm_impl_OrdinalTerm_v0_l6 rf_n_impl_cmp rf_n_slices_CompareFunc_impl_OrdinalTerm_impl_OrdinalTerm_impl_OrdinalTerm_impl_OrdinalTerm_v0 rf_n_impl_cmpTerms fuel s1 s2 0
theorem n_slices_CompareFunc_impl_OrdinalTerm_impl_OrdinalTerm_impl_OrdinalTerm_impl_OrdinalTerm_v0_B_way {I : Nat → St → Prop} {rf_n_impl_cmp : List T_rI → List T_rI → Option Int} {rf_n_slices_CompareFunc_impl_OrdinalTerm_impl_OrdinalTerm_impl_OrdinalTerm_impl_OrdinalTerm_v0 : List T_rI → List T_rI → Option Int} {rf_n_impl_cmpTerms : List T_rI → Int → List T_rI → Int → Option Int} (hrf_n_impl_cmp : ∀ (a : List T_rI) (b : List T_rI) (r : Int), rf_n_impl_cmp a b = some r → Sound Tryd.prog F_impl_cmp [.v (.ag [.sl false 2 (e_rI false a)]), .v (.ag [.sl false 2 (e_rI false b)])] (.val (.int .i64 r)) [.v (.ag [.sl false 2 (e_rI false a)]), .v (.ag [.sl false 2 (e_rI false b)])]) (hrf_n_slices_CompareFunc_impl_OrdinalTerm_impl_OrdinalTerm_impl_OrdinalTerm_impl_OrdinalTerm_v0 : ∀ (s1 : List T_rI) (s2 : List T_rI) (r : Int), rf_n_slices_CompareFunc_impl_OrdinalTerm_impl_OrdinalTerm_impl_OrdinalTerm_impl_OrdinalTerm_v0 s1 s2 = some r → Sound Tryd.prog F_slices_CompareFunc_impl_OrdinalTerm_impl_OrdinalTerm_impl_OrdinalTerm_impl_OrdinalTerm [.v (.sl false 2 (e_rI false s1)), .v (.sl false 2 (e_rI false s2)), .v (.cl 66 [])] (.val (.int .i64 r)) [.v (.sl false 2 (e_rI false s1)), .v (.sl false 2 (e_rI false s2)), .v (.cl 66 [])]) (hrf_n_impl_cmpTerms : ∀ (a : List T_rI) (a2 : Int) (b : List T_rI) (b2 : Int) (r : Int), rf_n_impl_cmpTerms a a2 b b2 = some r → Sound Tryd.prog F_impl_cmpTerms [.v (.ag [.sl false 2 (e_rI false a), .val (.int .i64 a2)]), .v (.ag [.sl false 2 (e_rI false b), .val (.int .i64 b2)])] (.val (.int .i64 r)) [.v (.ag [.sl false 2 (e_rI false a), .val (.int .i64 a2)]), .v (.ag [.sl false 2 (e_rI false b), .val (.int .i64 b2)])]) {s1 : List T_rI} {s2 : List T_rI} {r : Int} (h : n_slices_CompareFunc_impl_OrdinalTerm_impl_OrdinalTerm_impl_OrdinalTerm_impl_OrdinalTerm_v0_B rf_n_impl_cmp rf_n_slices_CompareFunc_impl_OrdinalTerm_impl_OrdinalTerm_impl_OrdinalTerm_impl_OrdinalTerm_v0 rf_n_impl_cmpTerms s1 s2 = some r) : wpx Tryd.prog (FC.pn (fc_n_slices_CompareFunc_impl_OrdinalTerm_impl_OrdinalTerm_impl_OrdinalTerm_impl_OrdinalTerm_v0 s1 s2 r)) c_slices_CompareFunc_impl_OrdinalTerm_impl_OrdinalTerm_impl_OrdinalTerm_impl_OrdinalTerm_k0 (kq Tryd.prog (fc_n_slices_CompareFunc_impl_OrdinalTerm_impl_OrdinalTerm_impl_OrdinalTerm_impl_OrdinalTerm_v0 s1 s2 r) I []) (([(0, .pu (.sl false 2 (e_rI false s1))), (1, .pu (.sl false 2 (e_rI false s2))), (2, .pu (.cl 66 []))], []) : St).1 (([(0, .pu (.sl false 2 (e_rI false s1))), (1, .pu (.sl false 2 (e_rI false s2))), (2, .pu (.cl 66 []))], []) : St).2 := by
  unfold n_slices_CompareFunc_impl_OrdinalTerm_impl_OrdinalTerm_impl_OrdinalTerm_impl_OrdinalTerm_v0_B at h
  exact way 200 [.len (len_ok k_rI false s1), .stop [] (T_n_slices_CompareFunc_impl_OrdinalTerm_impl_OrdinalTerm_impl_OrdinalTerm_impl_OrdinalTerm_v0_6 s1 s2 0)] (n_slices_CompareFunc_impl_OrdinalTerm_impl_OrdinalTerm_impl_OrdinalTerm_impl_OrdinalTerm_v0_l6_ok hrf_n_impl_cmp hrf_n_slices_CompareFunc_impl_OrdinalTerm_impl_OrdinalTerm_impl_OrdinalTerm_impl_OrdinalTerm_v0 hrf_n_impl_cmpTerms _ _ _ _ h) (by kernel_rfl)
theorem n_slices_CompareFunc_impl_OrdinalTerm_impl_OrdinalTerm_impl_OrdinalTerm_impl_OrdinalTerm_v0_B_ok {rf_n_impl_cmp : List T_rI → List T_rI → Option Int} {rf_n_slices_CompareFunc_impl_OrdinalTerm_impl_OrdinalTerm_impl_OrdinalTerm_impl_OrdinalTerm_v0 : List T_rI → List T_rI → Option Int} {rf_n_impl_cmpTerms : List T_rI → Int → List T_rI → Int → Option Int} (hrf_n_impl_cmp : ∀ (a : List T_rI) (b : List T_rI) (r : Int), rf_n_impl_cmp a b = some r → Sound Tryd.prog F_impl_cmp [.v (.ag [.sl false 2 (e_rI false a)]), .v (.ag [.sl false 2 (e_rI false b)])] (.val (.int .i64 r)) [.v (.ag [.sl false 2 (e_rI false a)]), .v (.ag [.sl false 2 (e_rI false b)])]) (hrf_n_slices_CompareFunc_impl_OrdinalTerm_impl_OrdinalTerm_impl_OrdinalTerm_impl_OrdinalTerm_v0 : ∀ (s1 : List T_rI) (s2 : List T_rI) (r : Int), rf_n_slices_CompareFunc_impl_OrdinalTerm_impl_OrdinalTerm_impl_OrdinalTerm_impl_OrdinalTerm_v0 s1 s2 = some r → Sound Tryd.prog F_slices_CompareFunc_impl_OrdinalTerm_impl_OrdinalTerm_impl_OrdinalTerm_impl_OrdinalTerm [.v (.sl false 2 (e_rI false s1)), .v (.sl false 2 (e_rI false s2)), .v (.cl 66 [])] (.val (.int .i64 r)) [.v (.sl false 2 (e_rI false s1)), .v (.sl false 2 (e_rI false s2)), .v (.cl 66 [])]) (hrf_n_impl_cmpTerms : ∀ (a : List T_rI) (a2 : Int) (b : List T_rI) (b2 : Int) (r : Int), rf_n_impl_cmpTerms a a2 b b2 = some r → Sound Tryd.prog F_impl_cmpTerms [.v (.ag [.sl false 2 (e_rI false a), .val (.int .i64 a2)]), .v (.ag [.sl false 2 (e_rI false b), .val (.int .i64 b2)])] (.val (.int .i64 r)) [.v (.ag [.sl false 2 (e_rI false a), .val (.int .i64 a2)]), .v (.ag [.sl false 2 (e_rI false b), .val (.int .i64 b2)])]) {s1 : List T_rI} {s2 : List T_rI} {r : Int} (h : n_slices_CompareFunc_impl_OrdinalTerm_impl_OrdinalTerm_impl_OrdinalTerm_impl_OrdinalTerm_v0_B rf_n_impl_cmp rf_n_slices_CompareFunc_impl_OrdinalTerm_impl_OrdinalTerm_impl_OrdinalTerm_impl_OrdinalTerm_v0 rf_n_impl_cmpTerms s1 s2 = some r) : Sound Tryd.prog F_slices_CompareFunc_impl_OrdinalTerm_impl_OrdinalTerm_impl_OrdinalTerm_impl_OrdinalTerm [.v (.sl false 2 (e_rI false s1)), .v (.sl false 2 (e_rI false s2)), .v (.cl 66 [])] (.val (.int .i64 r)) [.v (.sl false 2 (e_rI false s1)), .v (.sl false 2 (e_rI false s2)), .v (.cl 66 [])] :=
  soundX hmix ok_slices_CompareFunc_impl_OrdinalTerm_impl_OrdinalTerm_impl_OrdinalTerm_impl_OrdinalTerm (fc := (fc_n_slices_CompareFunc_impl_OrdinalTerm_impl_OrdinalTerm_impl_OrdinalTerm_impl_OrdinalTerm_v0 s1 s2 r)) rfl (S₀ := []) rfl rfl (n_slices_CompareFunc_impl_OrdinalTerm_impl_OrdinalTerm_impl_OrdinalTerm_impl_OrdinalTerm_v0_B_way hrf_n_impl_cmp hrf_n_slices_CompareFunc_impl_OrdinalTerm_impl_OrdinalTerm_impl_OrdinalTerm_impl_OrdinalTerm_v0 hrf_n_impl_cmpTerms h)
def fc_n_impl_cmpTerms (a : List T_rI) (a2 : Int) (b : List T_rI) (b2 : Int) (r : Int) : FC := ⟨[.v (.ag [.sl false 2 (e_rI false a), .val (.int .i64 a2)]), .v (.ag [.sl false 2 (e_rI false b), .val (.int .i64 b2)])], [.tmp 4], .val (.int .i64 r), [.v (.ag [.sl false 2 (e_rI false a), .val (.int .i64 a2)]), .v (.ag [.sl false 2 (e_rI false b), .val (.int .i64 b2)])]⟩
def n_impl_cmpTerms_B (rf_n_impl_cmp : List T_rI → List T_rI → Option Int) (rf_n_slices_CompareFunc_impl_OrdinalTerm_impl_OrdinalTerm_impl_OrdinalTerm_impl_OrdinalTerm_v0 : List T_rI → List T_rI → Option Int) (rf_n_impl_cmpTerms : List T_rI → Int → List T_rI → Int → Option Int) (a : List T_rI) (a2 : Int) (b : List T_rI) (b2 : Int) : Option Int :=
  ((rf_n_impl_cmp a b).bind fun (v10_0 : Int) =>
  (bif (decide (v10_0 = 0)) then
    ((n_impl_compare a2 b2).bind fun (v18_0 : Int) =>
    some v18_0)
  else
    some v10_0))
theorem n_impl_cmpTerms_B_way {I : Nat → St → Prop} {rf_n_impl_cmp : List T_rI → List T_rI → Option Int} {rf_n_slices_CompareFunc_impl_OrdinalTerm_impl_OrdinalTerm_impl_OrdinalTerm_impl_OrdinalTerm_v0 : List T_rI → List T_rI → Option Int} {rf_n_impl_cmpTerms : List T_rI → Int → List T_rI → Int → Option Int} (hrf_n_impl_cmp : ∀ (a : List T_rI) (b : List T_rI) (r : Int), rf_n_impl_cmp a b = some r → Sound Tryd.prog F_impl_cmp [.v (.ag [.sl false 2 (e_rI false a)]), .v (.ag [.sl false 2 (e_rI false b)])] (.val (.int .i64 r)) [.v (.ag [.sl false 2 (e_rI false a)]), .v (.ag [.sl false 2 (e_rI false b)])]) (hrf_n_slices_CompareFunc_impl_OrdinalTerm_impl_OrdinalTerm_impl_OrdinalTerm_impl_OrdinalTerm_v0 : ∀ (s1 : List T_rI) (s2 : List T_rI) (r : Int), rf_n_slices_CompareFunc_impl_OrdinalTerm_impl_OrdinalTerm_impl_OrdinalTerm_impl_OrdinalTerm_v0 s1 s2 = some r → Sound Tryd.prog F_slices_CompareFunc_impl_OrdinalTerm_impl_OrdinalTerm_impl_OrdinalTerm_impl_OrdinalTerm [.v (.sl false 2 (e_rI false s1)), .v (.sl false 2 (e_rI false s2)), .v (.cl 66 [])] (.val (.int .i64 r)) [.v (.sl false 2 (e_rI false s1)), .v (.sl false 2 (e_rI false s2)), .v (.cl 66 [])]) (hrf_n_impl_cmpTerms : ∀ (a : List T_rI) (a2 : Int) (b : List T_rI) (b2 : Int) (r : Int), rf_n_impl_cmpTerms a a2 b b2 = some r → Sound Tryd.prog F_impl_cmpTerms [.v (.ag [.sl false 2 (e_rI false a), .val (.int .i64 a2)]), .v (.ag [.sl false 2 (e_rI false b), .val (.int .i64 b2)])] (.val (.int .i64 r)) [.v (.ag [.sl false 2 (e_rI false a), .val (.int .i64 a2)]), .v (.ag [.sl false 2 (e_rI false b), .val (.int .i64 b2)])]) {a : List T_rI} {a2 : Int} {b : List T_rI} {b2 : Int} {r : Int} (h : n_impl_cmpTerms_B rf_n_impl_cmp rf_n_slices_CompareFunc_impl_OrdinalTerm_impl_OrdinalTerm_impl_OrdinalTerm_impl_OrdinalTerm_v0 rf_n_impl_cmpTerms a a2 b b2 = some r) : wpx Tryd.prog (FC.pn (fc_n_impl_cmpTerms a a2 b b2 r)) c_impl_cmpTerms_k0 (kq Tryd.prog (fc_n_impl_cmpTerms a a2 b b2 r) I []) (([(0, .ag [.pu (.sl false 2 (e_rI false a)), .pu (.val (.int .i64 a2))]), (1, .ag [.pu (.sl false 2 (e_rI false b)), .pu (.val (.int .i64 b2))])], []) : St).1 (([(0, .ag [.pu (.sl false 2 (e_rI false a)), .pu (.val (.int .i64 a2))]), (1, .ag [.pu (.sl false 2 (e_rI false b)), .pu (.val (.int .i64 b2))])], []) : St).2 := by
  unfold n_impl_cmpTerms_B at h
  refine bind_elim h (fun v10_0 c1 h => ?_)
  refine bif_elim h (fun c2 h => ?_) (fun c2 h => ?_)
  · refine bind_elim h (fun v18_0 c3 h => ?_)
    cases h
    exact wayR 200 [.call (hrf_n_impl_cmp _ _ _ c1), .br (congrArg not c2), .call (n_impl_compare_ok c3), .fin0] (by kernel_rfl)
  · cases h
    exact wayR 200 [.call (hrf_n_impl_cmp _ _ _ c1), .br (congrArg not c2), .fin0] (by kernel_rfl)
theorem n_impl_cmpTerms_B_ok {rf_n_impl_cmp : List T_rI → List T_rI → Option Int} {rf_n_slices_CompareFunc_impl_OrdinalTerm_impl_OrdinalTerm_impl_OrdinalTerm_impl_OrdinalTerm_v0 : List T_rI → List T_rI → Option Int} {rf_n_impl_cmpTerms : List T_rI → Int → List T_rI → Int → Option Int} (hrf_n_impl_cmp : ∀ (a : List T_rI) (b : List T_rI) (r : Int), rf_n_impl_cmp a b = some r → Sound Tryd.prog F_impl_cmp [.v (.ag [.sl false 2 (e_rI false a)]), .v (.ag [.sl false 2 (e_rI false b)])] (.val (.int .i64 r)) [.v (.ag [.sl false 2 (e_rI false a)]), .v (.ag [.sl false 2 (e_rI false b)])]) (hrf_n_slices_CompareFunc_impl_OrdinalTerm_impl_OrdinalTerm_impl_OrdinalTerm_impl_OrdinalTerm_v0 : ∀ (s1 : List T_rI) (s2 : List T_rI) (r : Int), rf_n_slices_CompareFunc_impl_OrdinalTerm_impl_OrdinalTerm_impl_OrdinalTerm_impl_OrdinalTerm_v0 s1 s2 = some r → Sound Tryd.prog F_slices_CompareFunc_impl_OrdinalTerm_impl_OrdinalTerm_impl_OrdinalTerm_impl_OrdinalTerm [.v (.sl false 2 (e_rI false s1)), .v (.sl false 2 (e_rI false s2)), .v (.cl 66 [])] (.val (.int .i64 r)) [.v (.sl false 2 (e_rI false s1)), .v (.sl false 2 (e_rI false s2)), .v (.cl 66 [])]) (hrf_n_impl_cmpTerms : ∀ (a : List T_rI) (a2 : Int) (b : List T_rI) (b2 : Int) (r : Int), rf_n_impl_cmpTerms a a2 b b2 = some r → Sound Tryd.prog F_impl_cmpTerms [.v (.ag [.sl false 2 (e_rI false a), .val (.int .i64 a2)]), .v (.ag [.sl false 2 (e_rI false b), .val (.int .i64 b2)])] (.val (.int .i64 r)) [.v (.ag [.sl false 2 (e_rI false a), .val (.int .i64 a2)]), .v (.ag [.sl false 2 (e_rI false b), .val (.int .i64 b2)])]) {a : List T_rI} {a2 : Int} {b : List T_rI} {b2 : Int} {r : Int} (h : n_impl_cmpTerms_B rf_n_impl_cmp rf_n_slices_CompareFunc_impl_OrdinalTerm_impl_OrdinalTerm_impl_OrdinalTerm_impl_OrdinalTerm_v0 rf_n_impl_cmpTerms a a2 b b2 = some r) : Sound Tryd.prog F_impl_cmpTerms [.v (.ag [.sl false 2 (e_rI false a), .val (.int .i64 a2)]), .v (.ag [.sl false 2 (e_rI false b), .val (.int .i64 b2)])] (.val (.int .i64 r)) [.v (.ag [.sl false 2 (e_rI false a), .val (.int .i64 a2)]), .v (.ag [.sl false 2 (e_rI false b), .val (.int .i64 b2)])] :=
  soundX hmix ok_impl_cmpTerms (fc := (fc_n_impl_cmpTerms a a2 b b2 r)) rfl (S₀ := []) rfl rfl (n_impl_cmpTerms_B_way hrf_n_impl_cmp hrf_n_slices_CompareFunc_impl_OrdinalTerm_impl_OrdinalTerm_impl_OrdinalTerm_impl_OrdinalTerm_v0 hrf_n_impl_cmpTerms h)
def n_impl_cmp_S : Nat → (List T_rI → List T_rI → Option Int) × (List T_rI → List T_rI → Option Int) × (List T_rI → Int → List T_rI → Int → Option Int)
  | 0 => (fun _ _ => none, fun _ _ => none, fun _ _ _ _ => none)
  | n + 1 => (n_impl_cmp_B (n_impl_cmp_S n).1 (n_impl_cmp_S n).2.1 (n_impl_cmp_S n).2.2, n_slices_CompareFunc_impl_OrdinalTerm_impl_OrdinalTerm_impl_OrdinalTerm_impl_OrdinalTerm_v0_B (n_impl_cmp_S n).1 (n_impl_cmp_S n).2.1 (n_impl_cmp_S n).2.2, n_impl_cmpTerms_B (n_impl_cmp_S n).1 (n_impl_cmp_S n).2.1 (n_impl_cmp_S n).2.2)
def n_impl_cmp_N (n : Nat) : List T_rI → List T_rI → Option Int := (n_impl_cmp_S n).1
def n_slices_CompareFunc_impl_OrdinalTerm_impl_OrdinalTerm_impl_OrdinalTerm_impl_OrdinalTerm_v0_N (n : Nat) : List T_rI → List T_rI → Option Int := (n_impl_cmp_S n).2.1
def n_impl_cmpTerms_N (n : Nat) : List T_rI → Int → List T_rI → Int → Option Int := (n_impl_cmp_S n).2.2
theorem n_impl_cmp_N_succ (n : Nat) : n_impl_cmp_N (n + 1) = n_impl_cmp_B (n_impl_cmp_N n) (n_slices_CompareFunc_impl_OrdinalTerm_impl_OrdinalTerm_impl_OrdinalTerm_impl_OrdinalTerm_v0_N n) (n_impl_cmpTerms_N n) := rfl
theorem n_slices_CompareFunc_impl_OrdinalTerm_impl_OrdinalTerm_impl_OrdinalTerm_impl_OrdinalTerm_v0_N_succ (n : Nat) : n_slices_CompareFunc_impl_OrdinalTerm_impl_OrdinalTerm_impl_OrdinalTerm_impl_OrdinalTerm_v0_N (n + 1) = n_slices_CompareFunc_impl_OrdinalTerm_impl_OrdinalTerm_impl_OrdinalTerm_impl_OrdinalTerm_v0_B (n_impl_cmp_N n) (n_slices_CompareFunc_impl_OrdinalTerm_impl_OrdinalTerm_impl_OrdinalTerm_impl_OrdinalTerm_v0_N n) (n_impl_cmpTerms_N n) := rfl
theorem n_impl_cmpTerms_N_succ (n : Nat) : n_impl_cmpTerms_N (n + 1) = n_impl_cmpTerms_B (n_impl_cmp_N n) (n_slices_CompareFunc_impl_OrdinalTerm_impl_OrdinalTerm_impl_OrdinalTerm_impl_OrdinalTerm_v0_N n) (n_impl_cmpTerms_N n) := rfl
theorem n_impl_cmp_NN : ∀ n : Nat, (∀ (a : List T_rI) (b : List T_rI) (r : Int), n_impl_cmp_N n a b = some r → Sound Tryd.prog F_impl_cmp [.v (.ag [.sl false 2 (e_rI false a)]), .v (.ag [.sl false 2 (e_rI false b)])] (.val (.int .i64 r)) [.v (.ag [.sl false 2 (e_rI false a)]), .v (.ag [.sl false 2 (e_rI false b)])]) ∧ (∀ (s1 : List T_rI) (s2 : List T_rI) (r : Int), n_slices_CompareFunc_impl_OrdinalTerm_impl_OrdinalTerm_impl_OrdinalTerm_impl_OrdinalTerm_v0_N n s1 s2 = some r → Sound Tryd.prog F_slices_CompareFunc_impl_OrdinalTerm_impl_OrdinalTerm_impl_OrdinalTerm_impl_OrdinalTerm [.v (.sl false 2 (e_rI false s1)), .v (.sl false 2 (e_rI false s2)), .v (.cl 66 [])] (.val (.int .i64 r)) [.v (.sl false 2 (e_rI false s1)), .v (.sl false 2 (e_rI false s2)), .v (.cl 66 [])]) ∧ (∀ (a : List T_rI) (a2 : Int) (b : List T_rI) (b2 : Int) (r : Int), n_impl_cmpTerms_N n a a2 b b2 = some r → Sound Tryd.prog F_impl_cmpTerms [.v (.ag [.sl false 2 (e_rI false a), .val (.int .i64 a2)]), .v (.ag [.sl false 2 (e_rI false b), .val (.int .i64 b2)])] (.val (.int .i64 r)) [.v (.ag [.sl false 2 (e_rI false a), .val (.int .i64 a2)]), .v (.ag [.sl false 2 (e_rI false b), .val (.int .i64 b2)])]) := by
  intro n
  induction n with
  | zero => refine ⟨?_, ?_, ?_⟩ <;> first | trivial | (intros; rename_i h; cases h)
  | succ n ih => exact ⟨fun _ _ r h => n_impl_cmp_B_ok ih.1 ih.2.1 ih.2.2 h, fun _ _ r h => n_slices_CompareFunc_impl_OrdinalTerm_impl_OrdinalTerm_impl_OrdinalTerm_impl_OrdinalTerm_v0_B_ok ih.1 ih.2.1 ih.2.2 h, fun _ _ _ _ r h => n_impl_cmpTerms_B_ok ih.1 ih.2.1 ih.2.2 h⟩
def n_impl_cmp (a : List T_rI) (b : List T_rI) : Option Int := n_impl_cmp_N fuel a b
theorem n_impl_cmp_ok {a : List T_rI} {b : List T_rI} {r : Int} (h : n_impl_cmp a b = some r) : Sound Tryd.prog F_impl_cmp [.v (.ag [.sl false 2 (e_rI false a)]), .v (.ag [.sl false 2 (e_rI false b)])] (.val (.int .i64 r)) [.v (.ag [.sl false 2 (e_rI false a)]), .v (.ag [.sl false 2 (e_rI false b)])] := (n_impl_cmp_NN fuel).1 a b r h
def n_slices_CompareFunc_impl_OrdinalTerm_impl_OrdinalTerm_impl_OrdinalTerm_impl_OrdinalTerm_v0 (s1 : List T_rI) (s2 : List T_rI) : Option Int := n_slices_CompareFunc_impl_OrdinalTerm_impl_OrdinalTerm_impl_OrdinalTerm_impl_OrdinalTerm_v0_N fuel s1 s2
theorem n_slices_CompareFunc_impl_OrdinalTerm_impl_OrdinalTerm_impl_OrdinalTerm_impl_OrdinalTerm_v0_ok {s1 : List T_rI} {s2 : List T_rI} {r : Int} (h : n_slices_CompareFunc_impl_OrdinalTerm_impl_OrdinalTerm_impl_OrdinalTerm_impl_OrdinalTerm_v0 s1 s2 = some r) : Sound Tryd.prog F_slices_CompareFunc_impl_OrdinalTerm_impl_OrdinalTerm_impl_OrdinalTerm_impl_OrdinalTerm [.v (.sl false 2 (e_rI false s1)), .v (.sl false 2 (e_rI false s2)), .v (.cl 66 [])] (.val (.int .i64 r)) [.v (.sl false 2 (e_rI false s1)), .v (.sl false 2 (e_rI false s2)), .v (.cl 66 [])] := (n_impl_cmp_NN fuel).2.1 s1 s2 r h
def n_impl_cmpTerms (a : List T_rI) (a2 : Int) (b : List T_rI) (b2 : Int) : Option Int := n_impl_cmpTerms_N fuel a a2 b b2
theorem n_impl_cmpTerms_ok {a : List T_rI} {a2 : Int} {b : List T_rI} {b2 : Int} {r : Int} (h : n_impl_cmpTerms a a2 b b2 = some r) : Sound Tryd.prog F_impl_cmpTerms [.v (.ag [.sl false 2 (e_rI false a), .val (.int .i64 a2)]), .v (.ag [.sl false 2 (e_rI false b), .val (.int .i64 b2)])] (.val (.int .i64 r)) [.v (.ag [.sl false 2 (e_rI false a), .val (.int .i64 a2)]), .v (.ag [.sl false 2 (e_rI false b), .val (.int .i64 b2)])] := (n_impl_cmp_NN fuel).2.2 a a2 b b2 r h

abbrev c_impl_in_r0 : CC := .reg [
    ⟨(some 6), none, .mv (.c (.bool false))⟩]
abbrev c_impl_in_r1 : CC := .reg [
    ⟨(some 7), none, .mv (.t 0)⟩,
    ⟨(some 8), none, .mv (.t 1)⟩,
    ⟨(some 9), none, .bin .geq (.t 7) (.t 8)⟩,
    ⟨(some 10), none, .mv (.t 9)⟩,
    ⟨(some 11), (some (10, true)), .mv (.t 0)⟩,
    ⟨(some 12), (some (10, true)), .mv (.t 2)⟩,
    ⟨(some 13), (some (10, true)), .bin .leq (.t 11) (.t 12)⟩,
    ⟨(some 14), none, .pick (.t 10) (.t 13) (.c (.bool false))⟩,
    ⟨(some 6), none, .mv (.t 14)⟩]
abbrev c_impl_in_k2 : CC := (.seq c_impl_in_r1 .ret)
abbrev c_impl_in_k0 : CC := (.seq c_impl_in_r0 c_impl_in_k2)
abbrev c_impl_in : CF := ⟨15, [.tmp 6], c_impl_in_k0⟩
abbrev F_impl_in : Nat := 122
theorem ok_impl_in : compileF Tryd.prog 122 = some c_impl_in := by kernel_rfl
def fc_n_impl_in (n_ : Int) (low : Int) (high : Int) (r : Bool) : FC := ⟨[.v (.val (.int .i64 n_)), .v (.val (.int .i64 low)), .v (.val (.int .i64 high))], [.tmp 6], .val (.bool r), [.v (.val (.int .i64 n_)), .v (.val (.int .i64 low)), .v (.val (.int .i64 high))]⟩
def n_impl_in  (n_ : Int) (low : Int) (high : Int) : Option Bool :=
  (bif (decide (n_ ≥ low)) then
    some (decide (n_ ≤ high))
  else
    some false)
theorem n_impl_in_way {I : Nat → St → Prop}   {n_ : Int} {low : Int} {high : Int} {r : Bool} (h : n_impl_in  n_ low high = some r) : wpx Tryd.prog (FC.pn (fc_n_impl_in n_ low high r)) c_impl_in_k0 (kq Tryd.prog (fc_n_impl_in n_ low high r) I []) (([(0, .pu (.val (.int .i64 n_))), (1, .pu (.val (.int .i64 low))), (2, .pu (.val (.int .i64 high)))], []) : St).1 (([(0, .pu (.val (.int .i64 n_))), (1, .pu (.val (.int .i64 low))), (2, .pu (.val (.int .i64 high)))], []) : St).2 := by
  unfold n_impl_in at h
  refine bif_elim h (fun c1 h => ?_) (fun c1 h => ?_)
  · cases h
    exact wayR 200 [.br c1, .br c1, .br c1, .br c1, .fin0] (by kernel_rfl)
  · cases h
    exact wayR 200 [.br c1, .br c1, .br c1, .br c1, .fin0] (by kernel_rfl)
theorem n_impl_in_ok   {n_ : Int} {low : Int} {high : Int} {r : Bool} (h : n_impl_in  n_ low high = some r) : Sound Tryd.prog F_impl_in [.v (.val (.int .i64 n_)), .v (.val (.int .i64 low)), .v (.val (.int .i64 high))] (.val (.bool r)) [.v (.val (.int .i64 n_)), .v (.val (.int .i64 low)), .v (.val (.int .i64 high))] :=
  soundX hmix ok_impl_in (fc := (fc_n_impl_in n_ low high r)) rfl (S₀ := []) rfl rfl (n_impl_in_way  h)

abbrev c_impl_ordinalAt_r0 : CC := .reg [
    ⟨(some 6), none, .mv (.c (.bool false))⟩]
abbrev c_impl_ordinalAt_r1 : CC := .reg [
    ⟨(some 9), none, .mv (.t 2)⟩,
    ⟨(some 10), none, .nilc (.t 9)⟩,
    ⟨(some 11), none, .load 1 false (.t 10)⟩,
    ⟨(some 12), none, .bin .add (.t 11) (.c (.int .i64 1))⟩,
    ⟨(some 13), none, .nilc (.t 9)⟩,
    ⟨none, none, .store 1 (.t 13) (.t 12)⟩]
abbrev c_impl_ordinalAt_r2 : CC := .reg [
    ⟨(some 14), none, .mv (.t 2)⟩,
    ⟨(some 15), none, .nilc (.t 14)⟩,
    ⟨(some 16), none, .load 1 false (.t 15)⟩,
    ⟨(some 17), none, .bin .gtr (.t 16) (.c (.int .i64 60))⟩,
    ⟨(some 18), none, .mv (.t 17)⟩,
    ⟨(some 19), (some (18, false)), .mv (.t 1)⟩,
    ⟨(some 20), (some (18, false)), .bin .gtr (.t 19) (.c (.int .i64 6))⟩,
    ⟨(some 21), none, .pick (.t 18) (.c (.bool true)) (.t 20)⟩]
abbrev c_impl_ordinalAt_r3 : CC := .reg [
    ⟨(some 6), none, .mv (.c (.bool false))⟩]
abbrev c_impl_ordinalAt_k7 : CC := (.cond (.t 21) (.seq c_impl_ordinalAt_r3 .ret) .skip)
abbrev c_impl_ordinalAt_k5 : CC := (.seq c_impl_ordinalAt_r2 c_impl_ordinalAt_k7)
abbrev c_impl_ordinalAt_r4 : CC := .reg [
    ⟨(some 22), none, .mv (.t 0)⟩,
    ⟨(some 23), none, .nilc (.t 22)⟩,
    ⟨(some 24), none, .fadr 0 (.t 23)⟩,
    ⟨(some 25), none, .load 1 false (.t 24)⟩,
    ⟨(some 26), none, .len false (.t 25)⟩,
    ⟨(some 27), none, .mv (.c (.int .i64 0))⟩]
abbrev c_impl_ordinalAt_r5 : CC := .reg [
    ⟨(some 28), none, .bin .lss (.t 27) (.t 26)⟩]
abbrev c_impl_ordinalAt_r6 : CC := .reg [
    ⟨(some 29), none, .mv (.t 27)⟩,
    ⟨(some 7), none, .mv (.t 29)⟩]
abbrev c_impl_ordinalAt_r7 : CC := .reg [
    ⟨(some 30), none, .mv (.t 0)⟩,
    ⟨(some 31), none, .nilc (.t 30)⟩,
    ⟨(some 32), none, .fadr 0 (.t 31)⟩,
    ⟨(some 33), none, .load 1 false (.t 32)⟩,
    ⟨(some 34), none, .mv (.t 7)⟩,
    ⟨(some 35), none, .iadr 2 (.t 33) (.t 34)⟩,
    ⟨(some 8), none, .mv (.t 35)⟩]
abbrev c_impl_ordinalAt_r8 : CC := .reg [
    ⟨(some 36), none, .mv (.t 2)⟩,
    ⟨(some 37), none, .nilc (.t 36)⟩,
    ⟨(some 38), none, .load 1 false (.t 37)⟩,
    ⟨(some 39), none, .bin .add (.t 38) (.c (.int .i64 1))⟩,
    ⟨(some 40), none, .nilc (.t 36)⟩,
    ⟨none, none, .store 1 (.t 40) (.t 39)⟩]
abbrev c_impl_ordinalAt_r9 : CC := .reg [
    ⟨(some 41), none, .mv (.t 2)⟩,
    ⟨(some 42), none, .nilc (.t 41)⟩,
    ⟨(some 43), none, .load 1 false (.t 42)⟩,
    ⟨(some 44), none, .bin .gtr (.t 43) (.c (.int .i64 60))⟩,
    ⟨(some 45), none, .mv (.t 44)⟩,
    ⟨(some 46), (some (45, false)), .mv (.t 8)⟩,
    ⟨(some 47), (some (45, false)), .nilc (.t 46)⟩,
    ⟨(some 48), (some (45, false)), .fadr 1 (.t 47)⟩,
    ⟨(some 49), (some (45, false)), .load 1 false (.t 48)⟩,
    ⟨(some 50), (some (45, false)), .call true (.f 122) [(.t 49), (.c (.int .i64 1)), (.c (.int .i64 1000000))]⟩,
    ⟨(some 51), (some (45, false)), .un .not (.t 50)⟩,
    ⟨(some 52), none, .pick (.t 45) (.c (.bool true)) (.t 51)⟩,
    ⟨(some 53), none, .mv (.t 52)⟩,
    ⟨(some 54), (some (53, false)), .mv (.t 8)⟩,
    ⟨(some 55), (some (53, false)), .nilc (.t 54)⟩,
    ⟨(some 56), (some (53, false)), .fadr 0 (.t 55)⟩,
    ⟨(some 57), (some (53, false)), .mv (.t 1)⟩,
    ⟨(some 58), (some (53, false)), .bin .add (.t 57) (.c (.int .i64 1))⟩,
    ⟨(some 59), (some (53, false)), .mv (.t 2)⟩,
    ⟨(some 60), (some (53, false)), .call false (.f 100) [(.t 56), (.t 58), (.t 59)]⟩,
    ⟨(some 61), (some (53, false)), .un .not (.t 60)⟩,
    ⟨(some 62), none, .pick (.t 53) (.c (.bool true)) (.t 61)⟩]
abbrev c_impl_ordinalAt_r10 : CC := .reg [
    ⟨(some 6), none, .mv (.c (.bool false))⟩]
abbrev c_impl_ordinalAt_k34 : CC := (.cond (.t 62) (.seq c_impl_ordinalAt_r10 .ret) .skip)
abbrev c_impl_ordinalAt_k32 : CC := (.seq c_impl_ordinalAt_r9 c_impl_ordinalAt_k34)
abbrev c_impl_ordinalAt_r11 : CC := .drw [
    ⟨(some 63), none, .mv (.t 7)⟩,
    ⟨(some 64), none, .bin .gtr (.t 63) (.c (.int .i64 0))⟩,
    ⟨(some 65), none, .mv (.t 64)⟩,
    ⟨(some 66), (some (65, true)), .mv (.t 0)⟩,
    ⟨(some 67), (some (65, true)), .nilc (.t 66)⟩,
    ⟨(some 68), (some (65, true)), .fadr 0 (.t 67)⟩,
    ⟨(some 69), (some (65, true)), .load 1 false (.t 68)⟩,
    ⟨(some 70), (some (65, true)), .mv (.t 7)⟩,
    ⟨(some 71), (some (65, true)), .bin .sub (.t 70) (.c (.int .i64 1))⟩,
    ⟨(some 72), (some (65, true)), .iadr 2 (.t 69) (.t 71)⟩,
    ⟨(some 73), (some (65, true)), .fadr 0 (.t 72)⟩,
    ⟨(some 74), (some (65, true)), .load 1 true (.t 73)⟩,
    ⟨(some 75), (some (65, true)), .mv (.t 8)⟩,
    ⟨(some 76), (some (65, true)), .nilc (.t 75)⟩,
    ⟨(some 77), (some (65, true)), .fadr 0 (.t 76)⟩,
    ⟨(some 78), (some (65, true)), .load 1 true (.t 77)⟩,
    ⟨(some 79), (some (65, true)), .call true (.f 35) [(.t 74), (.t 78)]⟩,
    ⟨(some 80), (some (65, true)), .bin .leq (.t 79) (.c (.int .i64 0))⟩,
    ⟨(some 81), none, .pick (.t 65) (.t 80) (.c (.bool false))⟩] [(3, 7), (4, 7), (5, 7), (6, 7), (3, 8), (4, 8), (5, 8), (6, 8), (3, 12), (4, 12), (5, 12), (6, 12), (7, 12), (8, 12), (9, 12), (10, 12), (11, 12), (3, 13), (4, 13), (5, 13), (6, 13), (7, 13), (8, 13), (9, 13), (10, 13), (11, 13), (3, 14), (4, 14), (5, 14), (6, 14), (7, 14), (8, 14), (9, 14), (10, 14), (11, 14), (3, 15), (4, 15), (5, 15), (6, 15), (7, 15), (8, 15), (9, 15), (10, 15), (11, 15)]
abbrev c_impl_ordinalAt_r12 : CC := .reg [
    ⟨(some 6), none, .mv (.c (.bool false))⟩]
abbrev c_impl_ordinalAt_k41 : CC := (.cond (.t 81) (.seq c_impl_ordinalAt_r12 .ret) .skip)
abbrev c_impl_ordinalAt_k39 : CC := (.seq c_impl_ordinalAt_r11 c_impl_ordinalAt_k41)
abbrev c_impl_ordinalAt_k29 : CC := (.seq (.seq c_impl_ordinalAt_r8 c_impl_ordinalAt_k32) c_impl_ordinalAt_k39)
abbrev c_impl_ordinalAt_k27 : CC := (.seq c_impl_ordinalAt_r7 c_impl_ordinalAt_k29)
abbrev c_impl_ordinalAt_r13 : CC := .reg [
    ⟨(some 82), none, .bin .add (.t 27) (.c (.int .i64 1))⟩,
    ⟨(some 27), none, .mv (.t 82)⟩]
abbrev c_impl_ordinalAt_k23 : CC := (.seq (.block 1 (.seq c_impl_ordinalAt_r6 c_impl_ordinalAt_k27)) c_impl_ordinalAt_r13)
abbrev c_impl_ordinalAt_k19 : CC := (.seq (.cond (.t 28) .skip (.exit 0)) c_impl_ordinalAt_k23)
abbrev c_impl_ordinalAt_k17 : CC := (.seq c_impl_ordinalAt_r5 c_impl_ordinalAt_k19)
abbrev c_impl_ordinalAt_k15 : CC := (.block 0 (.loop c_impl_ordinalAt_k17))
abbrev c_impl_ordinalAt_r14 : CC := .reg [
    ⟨(some 6), none, .mv (.c (.bool true))⟩]
abbrev c_impl_ordinalAt_k47 : CC := (.seq c_impl_ordinalAt_r14 .ret)
abbrev c_impl_ordinalAt_k12 : CC := (.seq (.seq c_impl_ordinalAt_r4 c_impl_ordinalAt_k15) c_impl_ordinalAt_k47)
abbrev c_impl_ordinalAt_k2 : CC := (.seq (.seq c_impl_ordinalAt_r1 c_impl_ordinalAt_k5) c_impl_ordinalAt_k12)
abbrev c_impl_ordinalAt_k0 : CC := (.seq c_impl_ordinalAt_r0 c_impl_ordinalAt_k2)
abbrev c_impl_ordinalAt : CF := ⟨83, [.tmp 6], c_impl_ordinalAt_k0⟩
abbrev F_impl_ordinalAt : Nat := 100
theorem ok_impl_ordinalAt : compileF Tryd.prog 100 = some c_impl_ordinalAt := by kernel_rfl
def fc_n_impl_ordinalAt_v1 (p : List T_rI) (p2 : Int) (p3 : Int) (r : Bool × Int) : FC := ⟨[.v (.rp [.sl false 2 (e_rI false p)]), .v (.val (.int .i64 p2)), .bx [.val (.int .i64 p3)]], [.tmp 6], .val (.bool r.1), [.v (.rp [.sl false 2 (e_rI false p)]), .v (.val (.int .i64 p2)), .bx [.val (.int .i64 r.2)]]⟩
def T_n_impl_ordinalAt_v1_39 (p : List T_rI) (p2 : Int) (x_k39_0 : Int) (v35_16 : T_rI) (x_k39_1 : Int) (v60_16 : Bool × Int) : St := ([(0, .pu (.rp [.sl false 2 (e_rI false p)])), (1, .pu (.val (.int .i64 p2))), (2, .ob 2 0), (7, .pu (.val (.int .i64 x_k39_0))), (8, .pu (.rp [.sl false 2 (e_rI false v35_16.c0), .val (.int .i64 v35_16.c1)])), (26, .pu (.val (.int .i64 (p.length : Int)))), (27, .pu (.val (.int .i64 x_k39_1)))], [(2, .box [.pu (.val (.int .i64 v60_16.2))])])
def T_n_impl_ordinalAt_v1_16 (p : List T_rI) (p2 : Int) (x_k16_1 : Int) (x_k16_0 : Int) : St := ([(0, .pu (.rp [.sl false 2 (e_rI false p)])), (1, .pu (.val (.int .i64 p2))), (2, .ob 2 0), (26, .pu (.val (.int .i64 (p.length : Int)))), (27, .pu (.val (.int .i64 x_k16_1)))], [(2, .box [.pu (.val (.int .i64 x_k16_0))])])
def T_n_impl_ordinalAt_v1_12 (p : List T_rI) (p2 : Int) (p3 : Int) : St := ([(0, .pu (.rp [.sl false 2 (e_rI false p)])), (1, .pu (.val (.int .i64 p2))), (2, .ob 2 0)], [(2, .box [.pu (.val (.int .i64 (wr (p3 + 1))))])])
def n_impl_ordinalAt_v1_j39 (rf_n_impl_ordinalAt_v1 : List T_rI → Int → Int → Option (Bool × Int)) (k16 : List T_rI → Int → Int → Int → Option (Bool × Int)) (p : List T_rI) (p2 : Int) (x_k39_0 : Int) (v35_16 : T_rI) (x_k39_1 : Int) (v60_16 : Bool × Int) : Option (Bool × Int) :=
  (bif (decide (x_k39_0 > 0)) then
    ((idx p (wr (x_k39_0 - 1))).bind fun (v72_39 : T_rI) =>
    ((n_impl_cmp v72_39.c0 v35_16.c0).bind fun (v79_39 : Int) =>
    (bif (decide (v79_39 ≤ 0)) then
      some (false, v60_16.2)
    else
      k16 p p2 (wr (x_k39_1 + 1)) v60_16.2)))
  else
    k16 p p2 (wr (x_k39_1 + 1)) v60_16.2)
theorem n_impl_ordinalAt_v1_j39_ok {I : Nat → St → Prop} {rf_n_impl_ordinalAt_v1 : List T_rI → Int → Int → Option (Bool × Int)} (hrf_n_impl_ordinalAt_v1 : ∀ (p : List T_rI) (p2 : Int) (p3 : Int) (r : Bool × Int), rf_n_impl_ordinalAt_v1 p p2 p3 = some r → Sound Tryd.prog F_impl_ordinalAt [.v (.rp [.sl false 2 (e_rI false p)]), .v (.val (.int .i64 p2)), .bx [.val (.int .i64 p3)]] (.val (.bool r.1)) [.v (.rp [.sl false 2 (e_rI false p)]), .v (.val (.int .i64 p2)), .bx [.val (.int .i64 r.2)]]) {k16 : List T_rI → Int → Int → Int → Option (Bool × Int)} {p_0 : List T_rI} {p2_0 : Int} {p3 : Int} {r : Bool × Int} (hI16 : ∀ (p : List T_rI) (p2 : Int) (x_k16_1 : Int) (x_k16_0 : Int), k16 p p2 x_k16_1 x_k16_0 = some r → I 1 (T_n_impl_ordinalAt_v1_16 p p2 x_k16_1 x_k16_0)) {p : List T_rI} {p2 : Int} {x_k39_0 : Int} {v35_16 : T_rI} {x_k39_1 : Int} {v60_16 : Bool × Int} (h : n_impl_ordinalAt_v1_j39 rf_n_impl_ordinalAt_v1 k16 p p2 x_k39_0 v35_16 x_k39_1 v60_16 = some r) : wpx Tryd.prog (FC.pn (fc_n_impl_ordinalAt_v1 p_0 p2_0 p3 r)) c_impl_ordinalAt_k39 (kq Tryd.prog (fc_n_impl_ordinalAt_v1 p_0 p2_0 p3 r) I [.blk 1, .sq c_impl_ordinalAt_r13, .lp 1, .blk 0, .sq c_impl_ordinalAt_k47]) (T_n_impl_ordinalAt_v1_39 p p2 x_k39_0 v35_16 x_k39_1 v60_16).1 (T_n_impl_ordinalAt_v1_39 p p2 x_k39_0 v35_16 x_k39_1 v60_16).2 := by
  unfold n_impl_ordinalAt_v1_j39 at h
  refine bif_elim h (fun c1 h => ?_) (fun c1 h => ?_)
  · refine bind_elim h (fun v72_39 c2 h => ?_)
    refine bind_elim h (fun v79_39 c3 h => ?_)
    refine bif_elim h (fun c4 h => ?_) (fun c4 h => ?_)
    · cases h
      exact wayR 200 [.br c1, .br c1, .br c1, .br c1, .br c1, .br c1, .br c1, .row (row_ok k_rI (o := false) c2), .br c1, .br c1, .br c1, .br c1, .br c1, .br c1, .br c1, .call (n_impl_cmp_ok c3), .br c1, .br c1, .br c4, .fin0] (by kernel_rfl)
    · exact wayB 200 [.br c1, .br c1, .br c1, .br c1, .br c1, .br c1, .br c1, .row (row_ok k_rI (o := false) c2), .br c1, .br c1, .br c1, .br c1, .br c1, .br c1, .br c1, .call (n_impl_cmp_ok c3), .br c1, .br c1, .br c4, .stop [] (T_n_impl_ordinalAt_v1_16 p p2 (wr (x_k39_1 + 1)) v60_16.2)] 1 (hI16 _ _ _ _ h) (by kernel_rfl)
  · exact wayB 200 [.br c1, .br c1, .br c1, .br c1, .br c1, .br c1, .br c1, .br c1, .br c1, .br c1, .br c1, .br c1, .br c1, .br c1, .br c1, .br c1, .lit false, .stop [] (T_n_impl_ordinalAt_v1_16 p p2 (wr (x_k39_1 + 1)) v60_16.2)] 1 (hI16 _ _ _ _ h) (by kernel_rfl)
def n_impl_ordinalAt_v1_b16 (rf_n_impl_ordinalAt_v1 : List T_rI → Int → Int → Option (Bool × Int))  (k16 : List T_rI → Int → Int → Int → Option (Bool × Int)) (p : List T_rI) (p2 : Int) (x_k16_1 : Int) (x_k16_0 : Int) : Option (Bool × Int) :=
  (bif (decide (x_k16_1 < (p.length : Int))) then
    ((idx p x_k16_1).bind fun (v35_16 : T_rI) =>
    (bif (decide ((wr (x_k16_0 + 1)) > 60)) then
      some (false, (wr (x_k16_0 + 1)))
    else
      ((n_impl_in v35_16.c1 1 1000000).bind fun (v50_16 : Bool) =>
      (bif v50_16 then
        ((rf_n_impl_ordinalAt_v1 v35_16.c0 (wr (p2 + 1)) (wr (x_k16_0 + 1))).bind fun (v60_16 : Bool × Int) =>
        (bif v60_16.1 then
          n_impl_ordinalAt_v1_j39 rf_n_impl_ordinalAt_v1 k16 p p2 x_k16_1 v35_16 x_k16_1 v60_16
        else
          some (false, v60_16.2)))
      else
        some (false, (wr (x_k16_0 + 1)))))))
  else
    some (true, x_k16_0))
def n_impl_ordinalAt_v1_l16 (rf_n_impl_ordinalAt_v1 : List T_rI → Int → Int → Option (Bool × Int))  : Nat → List T_rI → Int → Int → Int → Option (Bool × Int)
  | 0, _, _, _, _ => none
  | n + 1, p, p2, x_k16_1, x_k16_0 => n_impl_ordinalAt_v1_b16 rf_n_impl_ordinalAt_v1  (n_impl_ordinalAt_v1_l16 rf_n_impl_ordinalAt_v1  n) p p2 x_k16_1 x_k16_0
theorem n_impl_ordinalAt_v1_b16_ok {I : Nat → St → Prop} {rf_n_impl_ordinalAt_v1 : List T_rI → Int → Int → Option (Bool × Int)} (hrf_n_impl_ordinalAt_v1 : ∀ (p : List T_rI) (p2 : Int) (p3 : Int) (r : Bool × Int), rf_n_impl_ordinalAt_v1 p p2 p3 = some r → Sound Tryd.prog F_impl_ordinalAt [.v (.rp [.sl false 2 (e_rI false p)]), .v (.val (.int .i64 p2)), .bx [.val (.int .i64 p3)]] (.val (.bool r.1)) [.v (.rp [.sl false 2 (e_rI false p)]), .v (.val (.int .i64 p2)), .bx [.val (.int .i64 r.2)]])  {p_0 : List T_rI} {p2_0 : Int} {p3 : Int} {r : Bool × Int}  {k16 : List T_rI → Int → Int → Int → Option (Bool × Int)} (hI16 : ∀ (p : List T_rI) (p2 : Int) (x_k16_1 : Int) (x_k16_0 : Int), k16 p p2 x_k16_1 x_k16_0 = some r → I 1 (T_n_impl_ordinalAt_v1_16 p p2 x_k16_1 x_k16_0)) {p : List T_rI} {p2 : Int} {x_k16_1 : Int} {x_k16_0 : Int} (h : n_impl_ordinalAt_v1_b16 rf_n_impl_ordinalAt_v1  k16 p p2 x_k16_1 x_k16_0 = some r) : wpx Tryd.prog (FC.pn (fc_n_impl_ordinalAt_v1 p_0 p2_0 p3 r)) c_impl_ordinalAt_k17 (kq Tryd.prog (fc_n_impl_ordinalAt_v1 p_0 p2_0 p3 r) I [.lp 1, .blk 0, .sq c_impl_ordinalAt_k47]) (T_n_impl_ordinalAt_v1_16 p p2 x_k16_1 x_k16_0).1 (T_n_impl_ordinalAt_v1_16 p p2 x_k16_1 x_k16_0).2 := by
  unfold n_impl_ordinalAt_v1_b16 at h
  refine bif_elim h (fun c1 h => ?_) (fun c1 h => ?_)
  · refine bind_elim h (fun v35_16 c2 h => ?_)
    refine bif_elim h (fun c3 h => ?_) (fun c3 h => ?_)
    · cases h
      exact wayR 200 [.br c1, .row (row_ok k_rI (o := false) c2), .br c3, .br c3, .br c3, .br c3, .br c3, .br c3, .br c3, .lit true, .lit true, .lit true, .lit true, .lit true, .lit true, .lit true, .lit true, .lit true, .lit true, .fin0] (by kernel_rfl)
    · refine bind_elim h (fun v50_16 c4 h => ?_)
      refine bif_elim h (fun c5 h => ?_) (fun c5 h => ?_)
      · refine bind_elim h (fun v60_16 c6 h => ?_)
        refine bif_elim h (fun c7 h => ?_) (fun c7 h => ?_)
        · exact way 200 [.br c1, .row (row_ok k_rI (o := false) c2), .br c3, .br c3, .br c3, .br c3, .br c3, .call (n_impl_in_ok c4), .br c3, .br c3, .br (congrArg not c5), .br (congrArg not c5), .br (congrArg not c5), .br (congrArg not c5), .br (congrArg not c5), .br (congrArg not c5), .br (congrArg not c5), .callw (ALes.v (DLe.rpTake 1 [.sl false 2 (e_rI false v35_16.c0), .val (.int .i64 v35_16.c1)]) (ALes.v (DLe.refl _) (ALes.bx (DLes.c (DLe.refl _) DLes.z) ALes.z))) (hrf_n_impl_ordinalAt_v1 _ _ _ _ c6), .br (congrArg not c5), .br (congrArg not c5), .br (congrArg not c7), .pass 1, .cut [] (T_n_impl_ordinalAt_v1_39 p p2 x_k16_1 v35_16 x_k16_1 v60_16)] (n_impl_ordinalAt_v1_j39_ok hrf_n_impl_ordinalAt_v1 hI16 h) (by kernel_rfl)
        · cases h
          exact wayR 200 [.br c1, .row (row_ok k_rI (o := false) c2), .br c3, .br c3, .br c3, .br c3, .br c3, .call (n_impl_in_ok c4), .br c3, .br c3, .br (congrArg not c5), .br (congrArg not c5), .br (congrArg not c5), .br (congrArg not c5), .br (congrArg not c5), .br (congrArg not c5), .br (congrArg not c5), .callw (ALes.v (DLe.rpTake 1 [.sl false 2 (e_rI false v35_16.c0), .val (.int .i64 v35_16.c1)]) (ALes.v (DLe.refl _) (ALes.bx (DLes.c (DLe.refl _) DLes.z) ALes.z))) (hrf_n_impl_ordinalAt_v1 _ _ _ _ c6), .br (congrArg not c5), .br (congrArg not c5), .br (congrArg not c7), .fin0] (by kernel_rfl)
      · cases h
        exact wayR 200 [.br c1, .row (row_ok k_rI (o := false) c2), .br c3, .br c3, .br c3, .br c3, .br c3, .call (n_impl_in_ok c4), .br c3, .br c3, .br (congrArg not c5), .br (congrArg not c5), .br (congrArg not c5), .br (congrArg not c5), .br (congrArg not c5), .br (congrArg not c5), .br (congrArg not c5), .br (congrArg not c5), .br (congrArg not c5), .lit true, .fin0] (by kernel_rfl)
  · cases h
    exact wayR 200 [.br c1, .fin0] (by kernel_rfl)
theorem n_impl_ordinalAt_v1_l16_ok {I : Nat → St → Prop} {rf_n_impl_ordinalAt_v1 : List T_rI → Int → Int → Option (Bool × Int)} (hrf_n_impl_ordinalAt_v1 : ∀ (p : List T_rI) (p2 : Int) (p3 : Int) (r : Bool × Int), rf_n_impl_ordinalAt_v1 p p2 p3 = some r → Sound Tryd.prog F_impl_ordinalAt [.v (.rp [.sl false 2 (e_rI false p)]), .v (.val (.int .i64 p2)), .bx [.val (.int .i64 p3)]] (.val (.bool r.1)) [.v (.rp [.sl false 2 (e_rI false p)]), .v (.val (.int .i64 p2)), .bx [.val (.int .i64 r.2)]])  {p_0 : List T_rI} {p2_0 : Int} {p3 : Int} {r : Bool × Int}  : ∀ (n : Nat) (p : List T_rI) (p2 : Int) (x_k16_1 : Int) (x_k16_0 : Int), n_impl_ordinalAt_v1_l16 rf_n_impl_ordinalAt_v1  n p p2 x_k16_1 x_k16_0 = some r → wpx Tryd.prog (FC.pn (fc_n_impl_ordinalAt_v1 p_0 p2_0 p3 r)) (.loop c_impl_ordinalAt_k17) (kq Tryd.prog (fc_n_impl_ordinalAt_v1 p_0 p2_0 p3 r) I [.blk 0, .sq c_impl_ordinalAt_k47]) (T_n_impl_ordinalAt_v1_16 p p2 x_k16_1 x_k16_0).1 (T_n_impl_ordinalAt_v1_16 p p2 x_k16_1 x_k16_0).2 := by
  intro n p p2 x_k16_1 x_k16_0 h
  exact loopN (fc := (fc_n_impl_ordinalAt_v1 p_0 p2_0 p3 r)) (I := I) (j := 1) (V := List T_rI × Int × Int × Int) (fun n v => n_impl_ordinalAt_v1_l16 rf_n_impl_ordinalAt_v1  n v.1 v.2.1 v.2.2.1 v.2.2.2) (fun v => T_n_impl_ordinalAt_v1_16 v.1 v.2.1 v.2.2.1 v.2.2.2) r (fun v h => by simp [n_impl_ordinalAt_v1_l16] at h) (fun n v h I' hne hI' => n_impl_ordinalAt_v1_b16_ok hrf_n_impl_ordinalAt_v1  (k16 := n_impl_ordinalAt_v1_l16 rf_n_impl_ordinalAt_v1  n) (fun p p2 x_k16_1 x_k16_0 h => hI' (p, p2, x_k16_1, x_k16_0) h) h) (fun I' hne => kq_congr fun i hi => hne i (notIn_ne (by rfl) i hi)) n (p, p2, x_k16_1, x_k16_0) h
def n_impl_ordinalAt_v1_j12 (rf_n_impl_ordinalAt_v1 : List T_rI → Int → Int → Option (Bool × Int))  (p : List T_rI) (p2 : Int) (p3 : Int) : Option (Bool × Int) :=
  n_impl_ordinalAt_v1_l16 rf_n_impl_ordinalAt_v1 fuel p p2 0 (wr (p3 + 1))
theorem n_impl_ordinalAt_v1_j12_ok {I : Nat → St → Prop} {rf_n_impl_ordinalAt_v1 : List T_rI → Int → Int → Option (Bool × Int)} (hrf_n_impl_ordinalAt_v1 : ∀ (p : List T_rI) (p2 : Int) (p3 : Int) (r : Bool × Int), rf_n_impl_ordinalAt_v1 p p2 p3 = some r → Sound Tryd.prog F_impl_ordinalAt [.v (.rp [.sl false 2 (e_rI false p)]), .v (.val (.int .i64 p2)), .bx [.val (.int .i64 p3)]] (.val (.bool r.1)) [.v (.rp [.sl false 2 (e_rI false p)]), .v (.val (.int .i64 p2)), .bx [.val (.int .i64 r.2)]])  {p_0 : List T_rI} {p2_0 : Int} {p3_0 : Int} {r : Bool × Int}  {p : List T_rI} {p2 : Int} {p3 : Int} (h : n_impl_ordinalAt_v1_j12 rf_n_impl_ordinalAt_v1  p p2 p3 = some r) : wpx Tryd.prog (FC.pn (fc_n_impl_ordinalAt_v1 p_0 p2_0 p3_0 r)) c_impl_ordinalAt_k12 (kq Tryd.prog (fc_n_impl_ordinalAt_v1 p_0 p2_0 p3_0 r) I []) (T_n_impl_ordinalAt_v1_12 p p2 p3).1 (T_n_impl_ordinalAt_v1_12 p p2 p3).2 := by
  unfold n_impl_ordinalAt_v1_j12 at h
  exact way 200 [.len (len_ok k_rI false p), .stop [] (T_n_impl_ordinalAt_v1_16 p p2 0 (wr (p3 + 1)))] (n_impl_ordinalAt_v1_l16_ok hrf_n_impl_ordinalAt_v1 _ _ _ _ _ h) (by kernel_rfl)
def n_impl_ordinalAt_v1_B (rf_n_impl_ordinalAt_v1 : List T_rI → Int → Int → Option (Bool × Int)) (p : List T_rI) (p2 : Int) (p3 : Int) : Option (Bool × Int) :=
  (bif (decide ((wr (p3 + 1)) > 60)) then
    some (false, (wr (p3 + 1)))
  else
    (bif (decide (p2 > 6)) then
      some (false, (wr (p3 + 1)))
    else
      n_impl_ordinalAt_v1_j12 rf_n_impl_ordinalAt_v1 p p2 p3))
theorem n_impl_ordinalAt_v1_B_way {I : Nat → St → Prop} {rf_n_impl_ordinalAt_v1 : List T_rI → Int → Int → Option (Bool × Int)} (hrf_n_impl_ordinalAt_v1 : ∀ (p : List T_rI) (p2 : Int) (p3 : Int) (r : Bool × Int), rf_n_impl_ordinalAt_v1 p p2 p3 = some r → Sound Tryd.prog F_impl_ordinalAt [.v (.rp [.sl false 2 (e_rI false p)]), .v (.val (.int .i64 p2)), .bx [.val (.int .i64 p3)]] (.val (.bool r.1)) [.v (.rp [.sl false 2 (e_rI false p)]), .v (.val (.int .i64 p2)), .bx [.val (.int .i64 r.2)]]) {p : List T_rI} {p2 : Int} {p3 : Int} {r : Bool × Int} (h : n_impl_ordinalAt_v1_B rf_n_impl_ordinalAt_v1 p p2 p3 = some r) : wpx Tryd.prog (FC.pn (fc_n_impl_ordinalAt_v1 p p2 p3 r)) c_impl_ordinalAt_k0 (kq Tryd.prog (fc_n_impl_ordinalAt_v1 p p2 p3 r) I []) (([(0, .pu (.rp [.sl false 2 (e_rI false p)])), (1, .pu (.val (.int .i64 p2))), (2, .ob 2 0)], [(2, .box [.pu (.val (.int .i64 p3))]), (2, .hol)]) : St).1 (([(0, .pu (.rp [.sl false 2 (e_rI false p)])), (1, .pu (.val (.int .i64 p2))), (2, .ob 2 0)], [(2, .box [.pu (.val (.int .i64 p3))]), (2, .hol)]) : St).2 := by
  unfold n_impl_ordinalAt_v1_B at h
  refine bif_elim h (fun c1 h => ?_) (fun c1 h => ?_)
  · cases h
    exact wayR 200 [.br c1, .br c1, .br c1, .lit true, .fin0] (by kernel_rfl)
  · refine bif_elim h (fun c2 h => ?_) (fun c2 h => ?_)
    · cases h
      exact wayR 200 [.br c1, .br c1, .br c1, .br c2, .fin0] (by kernel_rfl)
    · exact way 200 [.br c1, .br c1, .br c1, .br c2, .pass 1, .cut [] (T_n_impl_ordinalAt_v1_12 p p2 p3)] (n_impl_ordinalAt_v1_j12_ok hrf_n_impl_ordinalAt_v1 h) (by kernel_rfl)
theorem n_impl_ordinalAt_v1_B_ok {rf_n_impl_ordinalAt_v1 : List T_rI → Int → Int → Option (Bool × Int)} (hrf_n_impl_ordinalAt_v1 : ∀ (p : List T_rI) (p2 : Int) (p3 : Int) (r : Bool × Int), rf_n_impl_ordinalAt_v1 p p2 p3 = some r → Sound Tryd.prog F_impl_ordinalAt [.v (.rp [.sl false 2 (e_rI false p)]), .v (.val (.int .i64 p2)), .bx [.val (.int .i64 p3)]] (.val (.bool r.1)) [.v (.rp [.sl false 2 (e_rI false p)]), .v (.val (.int .i64 p2)), .bx [.val (.int .i64 r.2)]]) {p : List T_rI} {p2 : Int} {p3 : Int} {r : Bool × Int} (h : n_impl_ordinalAt_v1_B rf_n_impl_ordinalAt_v1 p p2 p3 = some r) : Sound Tryd.prog F_impl_ordinalAt [.v (.rp [.sl false 2 (e_rI false p)]), .v (.val (.int .i64 p2)), .bx [.val (.int .i64 p3)]] (.val (.bool r.1)) [.v (.rp [.sl false 2 (e_rI false p)]), .v (.val (.int .i64 p2)), .bx [.val (.int .i64 r.2)]] :=
  soundX hmix ok_impl_ordinalAt (fc := (fc_n_impl_ordinalAt_v1 p p2 p3 r)) rfl (S₀ := [(2, .box [.pu (.val (.int .i64 p3))]), (2, .hol)]) rfl rfl (n_impl_ordinalAt_v1_B_way hrf_n_impl_ordinalAt_v1 h)
def n_impl_ordinalAt_v1_N : Nat → List T_rI → Int → Int → Option (Bool × Int)
  | 0, _, _, _ => none
  | n + 1, p, p2, p3 => n_impl_ordinalAt_v1_B (n_impl_ordinalAt_v1_N n) p p2 p3
theorem n_impl_ordinalAt_v1_NN : ∀ n : Nat, (∀ (p : List T_rI) (p2 : Int) (p3 : Int) (r : Bool × Int), n_impl_ordinalAt_v1_N n p p2 p3 = some r → Sound Tryd.prog F_impl_ordinalAt [.v (.rp [.sl false 2 (e_rI false p)]), .v (.val (.int .i64 p2)), .bx [.val (.int .i64 p3)]] (.val (.bool r.1)) [.v (.rp [.sl false 2 (e_rI false p)]), .v (.val (.int .i64 p2)), .bx [.val (.int .i64 r.2)]]) ∧ True := by
  intro n
  induction n with
  | zero => refine ⟨?_, ?_⟩ <;> first | trivial | (intros; rename_i h; cases h)
  | succ n ih => exact ⟨fun _ _ _ r h => n_impl_ordinalAt_v1_B_ok ih.1 h, trivial⟩
def n_impl_ordinalAt_v1 (p : List T_rI) (p2 : Int) (p3 : Int) : Option (Bool × Int) := n_impl_ordinalAt_v1_N fuel p p2 p3
theorem n_impl_ordinalAt_v1_ok {p : List T_rI} {p2 : Int} {p3 : Int} {r : Bool × Int} (h : n_impl_ordinalAt_v1 p p2 p3 = some r) : Sound Tryd.prog F_impl_ordinalAt [.v (.rp [.sl false 2 (e_rI false p)]), .v (.val (.int .i64 p2)), .bx [.val (.int .i64 p3)]] (.val (.bool r.1)) [.v (.rp [.sl false 2 (e_rI false p)]), .v (.val (.int .i64 p2)), .bx [.val (.int .i64 r.2)]] := (n_impl_ordinalAt_v1_NN fuel).1 p p2 p3 r h

def fc_n_impl_ordinalAt (p : List T_rI) (p2 : Int) (p3 : Int) (r : Bool × List T_rI × Int) : FC := ⟨[.bx [.sl false 2 (e_rI false p)], .v (.val (.int .i64 p2)), .bx [.val (.int .i64 p3)]], [.tmp 6], .val (.bool r.1), [.bx [.sl false 2 (e_rI false r.2.1)], .v (.val (.int .i64 p2)), .bx [.val (.int .i64 r.2.2)]]⟩
def T_n_impl_ordinalAt_39 (p2 : Int) (x_k39_0 : Int) (v35_16 : T_rI) (p : List T_rI) (x_k39_1 : Int) (v60_16 : Bool × Int) : St := ([(0, .ob 0 0), (1, .pu (.val (.int .i64 p2))), (2, .ob 2 0), (7, .pu (.val (.int .i64 x_k39_0))), (8, .pu (.rp [.sl false 2 (e_rI false v35_16.c0), .val (.int .i64 v35_16.c1)])), (26, .pu (.val (.int .i64 (p.length : Int)))), (27, .pu (.val (.int .i64 x_k39_1)))], [(0, .box [.pu (.sl false 2 (e_rI false p))]), (2, .box [.pu (.val (.int .i64 v60_16.2))])])
def T_n_impl_ordinalAt_16 (p2 : Int) (p : List T_rI) (x_k16_1 : Int) (x_k16_0 : Int) : St := ([(0, .ob 0 0), (1, .pu (.val (.int .i64 p2))), (2, .ob 2 0), (26, .pu (.val (.int .i64 (p.length : Int)))), (27, .pu (.val (.int .i64 x_k16_1)))], [(0, .box [.pu (.sl false 2 (e_rI false p))]), (2, .box [.pu (.val (.int .i64 x_k16_0))])])
def T_n_impl_ordinalAt_12 (p2 : Int) (p : List T_rI) (p3 : Int) : St := ([(0, .ob 0 0), (1, .pu (.val (.int .i64 p2))), (2, .ob 2 0)], [(0, .box [.pu (.sl false 2 (e_rI false p))]), (2, .box [.pu (.val (.int .i64 (wr (p3 + 1))))])])
def n_impl_ordinalAt_j39  (k16 : Int → List T_rI → Int → Int → Option (Bool × List T_rI × Int)) (p2 : Int) (x_k39_0 : Int) (v35_16 : T_rI) (p : List T_rI) (x_k39_1 : Int) (v60_16 : Bool × Int) : Option (Bool × List T_rI × Int) :=
  (bif (decide (x_k39_0 > 0)) then
    ((idx p (wr (x_k39_0 - 1))).bind fun (v72_39 : T_rI) =>
    ((n_impl_cmp v72_39.c0 v35_16.c0).bind fun (v79_39 : Int) =>
    (bif (decide (v79_39 ≤ 0)) then
      some (false, p, v60_16.2)
    else
      k16 p2 p (wr (x_k39_1 + 1)) v60_16.2)))
  else
    k16 p2 p (wr (x_k39_1 + 1)) v60_16.2)
theorem n_impl_ordinalAt_j39_ok {I : Nat → St → Prop}   {k16 : Int → List T_rI → Int → Int → Option (Bool × List T_rI × Int)} {p_0 : List T_rI} {p2_0 : Int} {p3 : Int} {r : Bool × List T_rI × Int} (hI16 : ∀ (p2 : Int) (p : List T_rI) (x_k16_1 : Int) (x_k16_0 : Int), k16 p2 p x_k16_1 x_k16_0 = some r → I 1 (T_n_impl_ordinalAt_16 p2 p x_k16_1 x_k16_0)) {p2 : Int} {x_k39_0 : Int} {v35_16 : T_rI} {p : List T_rI} {x_k39_1 : Int} {v60_16 : Bool × Int} (h : n_impl_ordinalAt_j39  k16 p2 x_k39_0 v35_16 p x_k39_1 v60_16 = some r) : wpx Tryd.prog (FC.pn (fc_n_impl_ordinalAt p_0 p2_0 p3 r)) c_impl_ordinalAt_k39 (kq Tryd.prog (fc_n_impl_ordinalAt p_0 p2_0 p3 r) I [.blk 1, .sq c_impl_ordinalAt_r13, .lp 1, .blk 0, .sq c_impl_ordinalAt_k47]) (T_n_impl_ordinalAt_39 p2 x_k39_0 v35_16 p x_k39_1 v60_16).1 (T_n_impl_ordinalAt_39 p2 x_k39_0 v35_16 p x_k39_1 v60_16).2 := by
  unfold n_impl_ordinalAt_j39 at h
  refine bif_elim h (fun c1 h => ?_) (fun c1 h => ?_)
  · refine bind_elim h (fun v72_39 c2 h => ?_)
    refine bind_elim h (fun v79_39 c3 h => ?_)
    refine bif_elim h (fun c4 h => ?_) (fun c4 h => ?_)
    · cases h
      exact wayR 200 [.br c1, .br c1, .br c1, .br c1, .br c1, .br c1, .br c1, .row (row_ok k_rI (o := false) c2), .br c1, .br c1, .br c1, .br c1, .br c1, .br c1, .br c1, .call (n_impl_cmp_ok c3), .br c1, .br c1, .br c4, .fin0] (by kernel_rfl)
    · exact wayB 200 [.br c1, .br c1, .br c1, .br c1, .br c1, .br c1, .br c1, .row (row_ok k_rI (o := false) c2), .br c1, .br c1, .br c1, .br c1, .br c1, .br c1, .br c1, .call (n_impl_cmp_ok c3), .br c1, .br c1, .br c4, .stop [] (T_n_impl_ordinalAt_16 p2 p (wr (x_k39_1 + 1)) v60_16.2)] 1 (hI16 _ _ _ _ h) (by kernel_rfl)
  · exact wayB 200 [.br c1, .br c1, .br c1, .br c1, .br c1, .br c1, .br c1, .br c1, .br c1, .br c1, .br c1, .br c1, .br c1, .br c1, .br c1, .br c1, .lit false, .stop [] (T_n_impl_ordinalAt_16 p2 p (wr (x_k39_1 + 1)) v60_16.2)] 1 (hI16 _ _ _ _ h) (by kernel_rfl)
def n_impl_ordinalAt_b16   (k16 : Int → List T_rI → Int → Int → Option (Bool × List T_rI × Int)) (p2 : Int) (p : List T_rI) (x_k16_1 : Int) (x_k16_0 : Int) : Option (Bool × List T_rI × Int) :=
  (bif (decide (x_k16_1 < (p.length : Int))) then
    ((idx p x_k16_1).bind fun (v35_16 : T_rI) =>
    (bif (decide ((wr (x_k16_0 + 1)) > 60)) then
      some (false, p, (wr (x_k16_0 + 1)))
    else
      ((n_impl_in v35_16.c1 1 1000000).bind fun (v50_16 : Bool) =>
      (bif v50_16 then
        ((n_impl_ordinalAt_v1 v35_16.c0 (wr (p2 + 1)) (wr (x_k16_0 + 1))).bind fun (v60_16 : Bool × Int) =>
        (bif v60_16.1 then
          n_impl_ordinalAt_j39 k16 p2 x_k16_1 v35_16 p x_k16_1 v60_16
        else
          some (false, p, v60_16.2)))
      else
        some (false, p, (wr (x_k16_0 + 1)))))))
  else
    some (true, p, x_k16_0))
def n_impl_ordinalAt_l16   : Nat → Int → List T_rI → Int → Int → Option (Bool × List T_rI × Int)
  | 0, _, _, _, _ => none
  | n + 1, p2, p, x_k16_1, x_k16_0 => n_impl_ordinalAt_b16   (n_impl_ordinalAt_l16   n) p2 p x_k16_1 x_k16_0
theorem n_impl_ordinalAt_b16_ok {I : Nat → St → Prop}    {p_0 : List T_rI} {p2_0 : Int} {p3 : Int} {r : Bool × List T_rI × Int}  {k16 : Int → List T_rI → Int → Int → Option (Bool × List T_rI × Int)} (hI16 : ∀ (p2 : Int) (p : List T_rI) (x_k16_1 : Int) (x_k16_0 : Int), k16 p2 p x_k16_1 x_k16_0 = some r → I 1 (T_n_impl_ordinalAt_16 p2 p x_k16_1 x_k16_0)) {p2 : Int} {p : List T_rI} {x_k16_1 : Int} {x_k16_0 : Int} (h : n_impl_ordinalAt_b16   k16 p2 p x_k16_1 x_k16_0 = some r) : wpx Tryd.prog (FC.pn (fc_n_impl_ordinalAt p_0 p2_0 p3 r)) c_impl_ordinalAt_k17 (kq Tryd.prog (fc_n_impl_ordinalAt p_0 p2_0 p3 r) I [.lp 1, .blk 0, .sq c_impl_ordinalAt_k47]) (T_n_impl_ordinalAt_16 p2 p x_k16_1 x_k16_0).1 (T_n_impl_ordinalAt_16 p2 p x_k16_1 x_k16_0).2 := by
  unfold n_impl_ordinalAt_b16 at h
  refine bif_elim h (fun c1 h => ?_) (fun c1 h => ?_)
  · refine bind_elim h (fun v35_16 c2 h => ?_)
    refine bif_elim h (fun c3 h => ?_) (fun c3 h => ?_)
    · cases h
      exact wayR 200 [.br c1, .row (row_ok k_rI (o := false) c2), .br c3, .br c3, .br c3, .br c3, .br c3, .br c3, .br c3, .lit true, .lit true, .lit true, .lit true, .lit true, .lit true, .lit true, .lit true, .lit true, .lit true, .fin0] (by kernel_rfl)
    · refine bind_elim h (fun v50_16 c4 h => ?_)
      refine bif_elim h (fun c5 h => ?_) (fun c5 h => ?_)
      · refine bind_elim h (fun v60_16 c6 h => ?_)
        refine bif_elim h (fun c7 h => ?_) (fun c7 h => ?_)
        · exact way 200 [.br c1, .row (row_ok k_rI (o := false) c2), .br c3, .br c3, .br c3, .br c3, .br c3, .call (n_impl_in_ok c4), .br c3, .br c3, .br (congrArg not c5), .br (congrArg not c5), .br (congrArg not c5), .br (congrArg not c5), .br (congrArg not c5), .br (congrArg not c5), .br (congrArg not c5), .callw (ALes.v (DLe.rpTake 1 [.sl false 2 (e_rI false v35_16.c0), .val (.int .i64 v35_16.c1)]) (ALes.v (DLe.refl _) (ALes.bx (DLes.c (DLe.refl _) DLes.z) ALes.z))) (n_impl_ordinalAt_v1_ok c6), .br (congrArg not c5), .br (congrArg not c5), .br (congrArg not c7), .pass 1, .cut [] (T_n_impl_ordinalAt_39 p2 x_k16_1 v35_16 p x_k16_1 v60_16)] (n_impl_ordinalAt_j39_ok hI16 h) (by kernel_rfl)
        · cases h
          exact wayR 200 [.br c1, .row (row_ok k_rI (o := false) c2), .br c3, .br c3, .br c3, .br c3, .br c3, .call (n_impl_in_ok c4), .br c3, .br c3, .br (congrArg not c5), .br (congrArg not c5), .br (congrArg not c5), .br (congrArg not c5), .br (congrArg not c5), .br (congrArg not c5), .br (congrArg not c5), .callw (ALes.v (DLe.rpTake 1 [.sl false 2 (e_rI false v35_16.c0), .val (.int .i64 v35_16.c1)]) (ALes.v (DLe.refl _) (ALes.bx (DLes.c (DLe.refl _) DLes.z) ALes.z))) (n_impl_ordinalAt_v1_ok c6), .br (congrArg not c5), .br (congrArg not c5), .br (congrArg not c7), .fin0] (by kernel_rfl)
      · cases h
        exact wayR 200 [.br c1, .row (row_ok k_rI (o := false) c2), .br c3, .br c3, .br c3, .br c3, .br c3, .call (n_impl_in_ok c4), .br c3, .br c3, .br (congrArg not c5), .br (congrArg not c5), .br (congrArg not c5), .br (congrArg not c5), .br (congrArg not c5), .br (congrArg not c5), .br (congrArg not c5), .br (congrArg not c5), .br (congrArg not c5), .lit true, .fin0] (by kernel_rfl)
  · cases h
    exact wayR 200 [.br c1, .fin0] (by kernel_rfl)
theorem n_impl_ordinalAt_l16_ok {I : Nat → St → Prop}    {p_0 : List T_rI} {p2_0 : Int} {p3 : Int} {r : Bool × List T_rI × Int}  : ∀ (n : Nat) (p2 : Int) (p : List T_rI) (x_k16_1 : Int) (x_k16_0 : Int), n_impl_ordinalAt_l16   n p2 p x_k16_1 x_k16_0 = some r → wpx Tryd.prog (FC.pn (fc_n_impl_ordinalAt p_0 p2_0 p3 r)) (.loop c_impl_ordinalAt_k17) (kq Tryd.prog (fc_n_impl_ordinalAt p_0 p2_0 p3 r) I [.blk 0, .sq c_impl_ordinalAt_k47]) (T_n_impl_ordinalAt_16 p2 p x_k16_1 x_k16_0).1 (T_n_impl_ordinalAt_16 p2 p x_k16_1 x_k16_0).2 := by
  intro n p2 p x_k16_1 x_k16_0 h
  exact loopN (fc := (fc_n_impl_ordinalAt p_0 p2_0 p3 r)) (I := I) (j := 1) (V := Int × List T_rI × Int × Int) (fun n v => n_impl_ordinalAt_l16   n v.1 v.2.1 v.2.2.1 v.2.2.2) (fun v => T_n_impl_ordinalAt_16 v.1 v.2.1 v.2.2.1 v.2.2.2) r (fun v h => by simp [n_impl_ordinalAt_l16] at h) (fun n v h I' hne hI' => n_impl_ordinalAt_b16_ok   (k16 := n_impl_ordinalAt_l16   n) (fun p2 p x_k16_1 x_k16_0 h => hI' (p2, p, x_k16_1, x_k16_0) h) h) (fun I' hne => kq_congr fun i hi => hne i (notIn_ne (by rfl) i hi)) n (p2, p, x_k16_1, x_k16_0) h
def n_impl_ordinalAt_j12   (p2 : Int) (p : List T_rI) (p3 : Int) : Option (Bool × List T_rI × Int) :=
  n_impl_ordinalAt_l16 fuel p2 p 0 (wr (p3 + 1))
theorem n_impl_ordinalAt_j12_ok {I : Nat → St → Prop}    {p_0 : List T_rI} {p2_0 : Int} {p3_0 : Int} {r : Bool × List T_rI × Int}  {p2 : Int} {p : List T_rI} {p3 : Int} (h : n_impl_ordinalAt_j12   p2 p p3 = some r) : wpx Tryd.prog (FC.pn (fc_n_impl_ordinalAt p_0 p2_0 p3_0 r)) c_impl_ordinalAt_k12 (kq Tryd.prog (fc_n_impl_ordinalAt p_0 p2_0 p3_0 r) I []) (T_n_impl_ordinalAt_12 p2 p p3).1 (T_n_impl_ordinalAt_12 p2 p p3).2 := by
  unfold n_impl_ordinalAt_j12 at h
  exact way 200 [.len (len_ok k_rI false p), .stop [] (T_n_impl_ordinalAt_16 p2 p 0 (wr (p3 + 1)))] (n_impl_ordinalAt_l16_ok _ _ _ _ _ h) (by kernel_rfl)
def n_impl_ordinalAt  (p : List T_rI) (p2 : Int) (p3 : Int) : Option (Bool × List T_rI × Int) :=
  (bif (decide ((wr (p3 + 1)) > 60)) then
    some (false, p, (wr (p3 + 1)))
  else
    (bif (decide (p2 > 6)) then
      some (false, p, (wr (p3 + 1)))
    else
      n_impl_ordinalAt_j12 p2 p p3))
theorem n_impl_ordinalAt_way {I : Nat → St → Prop}   {p : List T_rI} {p2 : Int} {p3 : Int} {r : Bool × List T_rI × Int} (h : n_impl_ordinalAt  p p2 p3 = some r) : wpx Tryd.prog (FC.pn (fc_n_impl_ordinalAt p p2 p3 r)) c_impl_ordinalAt_k0 (kq Tryd.prog (fc_n_impl_ordinalAt p p2 p3 r) I []) (([(0, .ob 0 0), (1, .pu (.val (.int .i64 p2))), (2, .ob 2 0)], [(2, .box [.pu (.val (.int .i64 p3))]), (0, .box [.pu (.sl false 2 (e_rI false p))]), (0, .hol), (2, .hol)]) : St).1 (([(0, .ob 0 0), (1, .pu (.val (.int .i64 p2))), (2, .ob 2 0)], [(2, .box [.pu (.val (.int .i64 p3))]), (0, .box [.pu (.sl false 2 (e_rI false p))]), (0, .hol), (2, .hol)]) : St).2 := by
  unfold n_impl_ordinalAt at h
  refine bif_elim h (fun c1 h => ?_) (fun c1 h => ?_)
  · cases h
    exact wayR 200 [.br c1, .br c1, .br c1, .lit true, .fin0] (by kernel_rfl)
  · refine bif_elim h (fun c2 h => ?_) (fun c2 h => ?_)
    · cases h
      exact wayR 200 [.br c1, .br c1, .br c1, .br c2, .fin0] (by kernel_rfl)
    · exact way 200 [.br c1, .br c1, .br c1, .br c2, .pass 1, .cut [] (T_n_impl_ordinalAt_12 p2 p p3)] (n_impl_ordinalAt_j12_ok  h) (by kernel_rfl)
theorem n_impl_ordinalAt_ok   {p : List T_rI} {p2 : Int} {p3 : Int} {r : Bool × List T_rI × Int} (h : n_impl_ordinalAt  p p2 p3 = some r) : Sound Tryd.prog F_impl_ordinalAt [.bx [.sl false 2 (e_rI false p)], .v (.val (.int .i64 p2)), .bx [.val (.int .i64 p3)]] (.val (.bool r.1)) [.bx [.sl false 2 (e_rI false r.2.1)], .v (.val (.int .i64 p2)), .bx [.val (.int .i64 r.2.2)]] :=
  soundX hmix ok_impl_ordinalAt (fc := (fc_n_impl_ordinalAt p p2 p3 r)) rfl (S₀ := [(2, .box [.pu (.val (.int .i64 p3))]), (0, .box [.pu (.sl false 2 (e_rI false p))]), (0, .hol), (2, .hol)]) rfl rfl (n_impl_ordinalAt_way  h)

abbrev c_impl_NodesOf_r0 : CC := .reg [
    ⟨(some 1), none, .box (.t 0)⟩,
    ⟨(some 2), none, .mv (.c (.int .i64 0))⟩,
    ⟨(some 3), none, .mv (.c (.bool false))⟩]
abbrev c_impl_NodesOf_r1 : CC := .reg [
    ⟨(some 4), none, .alloc [.int .i64 0]⟩,
    ⟨none, none, .store 1 (.t 4) (.c (.int .i64 0))⟩]
abbrev c_impl_NodesOf_r2 : CC := .reg [
    ⟨(some 5), none, .call false (.f 100) [(.t 1), (.c (.int .i64 0)), (.t 4)]⟩,
    ⟨(some 6), none, .un .not (.t 5)⟩]
abbrev c_impl_NodesOf_r3 : CC := .reg [
    ⟨(some 2), none, .mv (.c (.int .i64 0))⟩,
    ⟨(some 3), none, .mv (.c (.bool false))⟩]
abbrev c_impl_NodesOf_k7 : CC := (.cond (.t 6) (.seq c_impl_NodesOf_r3 .ret) .skip)
abbrev c_impl_NodesOf_r4 : CC := .reg [
    ⟨(some 7), none, .load 1 false (.t 4)⟩,
    ⟨(some 2), none, .mv (.t 7)⟩,
    ⟨(some 3), none, .mv (.c (.bool true))⟩]
abbrev c_impl_NodesOf_k12 : CC := (.seq c_impl_NodesOf_r4 .ret)
abbrev c_impl_NodesOf_k4 : CC := (.seq (.seq c_impl_NodesOf_r2 c_impl_NodesOf_k7) c_impl_NodesOf_k12)
abbrev c_impl_NodesOf_k2 : CC := (.seq c_impl_NodesOf_r1 c_impl_NodesOf_k4)
abbrev c_impl_NodesOf_k0 : CC := (.seq c_impl_NodesOf_r0 c_impl_NodesOf_k2)
abbrev c_impl_NodesOf : CF := ⟨8, [.tmp 2, .tmp 3], c_impl_NodesOf_k0⟩
abbrev F_impl_NodesOf : Nat := 63
theorem ok_impl_NodesOf : compileF Tryd.prog 63 = some c_impl_NodesOf := by kernel_rfl
def fc_n_impl_NodesOf (a : List T_rI) (r : Int × Bool) : FC := ⟨[.v (.ag [.sl false 2 (e_rI false a)])], [.tmp 2, .tmp 3], .tp [.val (.int .i64 r.1), .val (.bool r.2)], [.v (.ag [.sl false 2 (e_rI false a)])]⟩
def n_impl_NodesOf  (a : List T_rI) : Option (Int × Bool) :=
  ((n_impl_ordinalAt a 0 0).bind fun (v5_0 : Bool × List T_rI × Int) =>
  (bif v5_0.1 then
    some (v5_0.2.2, true)
  else
    some (0, false)))
theorem n_impl_NodesOf_way {I : Nat → St → Prop}   {a : List T_rI} {r : Int × Bool} (h : n_impl_NodesOf  a = some r) : wpx Tryd.prog (FC.pn (fc_n_impl_NodesOf a r)) c_impl_NodesOf_k0 (kq Tryd.prog (fc_n_impl_NodesOf a r) I []) (([(0, .ag [.pu (.sl false 2 (e_rI false a))])], []) : St).1 (([(0, .ag [.pu (.sl false 2 (e_rI false a))])], []) : St).2 := by
  unfold n_impl_NodesOf at h
  refine bind_elim h (fun v5_0 c1 h => ?_)
  refine bif_elim h (fun c2 h => ?_) (fun c2 h => ?_)
  · cases h
    exact wayR 200 [.call (n_impl_ordinalAt_ok c1), .br (congrArg not c2), .fin0] (by kernel_rfl)
  · cases h
    exact wayR 200 [.call (n_impl_ordinalAt_ok c1), .br (congrArg not c2), .fin0] (by kernel_rfl)
theorem n_impl_NodesOf_ok   {a : List T_rI} {r : Int × Bool} (h : n_impl_NodesOf  a = some r) : Sound Tryd.prog F_impl_NodesOf [.v (.ag [.sl false 2 (e_rI false a)])] (.tp [.val (.int .i64 r.1), .val (.bool r.2)]) [.v (.ag [.sl false 2 (e_rI false a)])] :=
  soundX hmix ok_impl_NodesOf (fc := (fc_n_impl_NodesOf a r)) rfl (S₀ := []) rfl rfl (n_impl_NodesOf_way  h)

abbrev c_impl_isZero_r0 : CC := .reg [
    ⟨(some 1), none, .box (.t 0)⟩,
    ⟨(some 2), none, .mv (.c (.bool false))⟩]
abbrev c_impl_isZero_r1 : CC := .reg [
    ⟨(some 3), none, .fadr 0 (.t 1)⟩,
    ⟨(some 4), none, .load 1 false (.t 3)⟩,
    ⟨(some 5), none, .len false (.t 4)⟩,
    ⟨(some 6), none, .bin .eql (.t 5) (.c (.int .i64 0))⟩,
    ⟨(some 2), none, .mv (.t 6)⟩]
abbrev c_impl_isZero_k2 : CC := (.seq c_impl_isZero_r1 .ret)
abbrev c_impl_isZero_k0 : CC := (.seq c_impl_isZero_r0 c_impl_isZero_k2)
abbrev c_impl_isZero : CF := ⟨7, [.tmp 2], c_impl_isZero_k0⟩
abbrev F_impl_isZero : Nat := 64
theorem ok_impl_isZero : compileF Tryd.prog 64 = some c_impl_isZero := by kernel_rfl
def fc_n_impl_isZero (a : List T_rI) (r : Bool) : FC := ⟨[.v (.ag [.sl false 2 (e_rI false a)])], [.tmp 2], .val (.bool r), [.v (.ag [.sl false 2 (e_rI false a)])]⟩
def n_impl_isZero  (a : List T_rI) : Option Bool :=
  some (decide ((a.length : Int) = 0))
theorem n_impl_isZero_way {I : Nat → St → Prop}   {a : List T_rI} {r : Bool} (h : n_impl_isZero  a = some r) : wpx Tryd.prog (FC.pn (fc_n_impl_isZero a r)) c_impl_isZero_k0 (kq Tryd.prog (fc_n_impl_isZero a r) I []) (([(0, .ag [.pu (.sl false 2 (e_rI false a))])], []) : St).1 (([(0, .ag [.pu (.sl false 2 (e_rI false a))])], []) : St).2 := by
  unfold n_impl_isZero at h
  cases h
  exact wayR 200 [.len (len_ok k_rI false a), .fin0] (by kernel_rfl)
theorem n_impl_isZero_ok   {a : List T_rI} {r : Bool} (h : n_impl_isZero  a = some r) : Sound Tryd.prog F_impl_isZero [.v (.ag [.sl false 2 (e_rI false a)])] (.val (.bool r)) [.v (.ag [.sl false 2 (e_rI false a)])] :=
  soundX hmix ok_impl_isZero (fc := (fc_n_impl_isZero a r)) rfl (S₀ := []) rfl rfl (n_impl_isZero_way  h)

abbrev c_impl_IsWord_r0 : CC := .reg [
    ⟨(some 1), none, .box (.t 0)⟩,
    ⟨(some 2), none, .mv (.c (.bool false))⟩]
abbrev c_impl_IsWord_r1 : CC := .reg [
    ⟨(some 3), none, .mv (.c (.int .i64 1))⟩]
abbrev c_impl_IsWord_r2 : CC := .reg [
    ⟨(some 8), none, .fadr 0 (.t 1)⟩,
    ⟨(some 9), none, .load 1 false (.t 8)⟩,
    ⟨(some 10), none, .len false (.t 9)⟩,
    ⟨(some 11), none, .mv (.c (.int .i64 0))⟩]
abbrev c_impl_IsWord_r3 : CC := .reg [
    ⟨(some 12), none, .bin .lss (.t 11) (.t 10)⟩]
abbrev c_impl_IsWord_r4 : CC := .reg [
    ⟨(some 13), none, .mv (.t 11)⟩,
    ⟨(some 14), none, .iadr 2 (.t 9) (.t 11)⟩,
    ⟨(some 15), none, .load 2 true (.t 14)⟩,
    ⟨(some 5), none, .alloc [.bool false, .slice none 0 0]⟩,
    ⟨(some 4), none, .mv (.t 13)⟩,
    ⟨none, none, .store 2 (.t 5) (.t 15)⟩]
abbrev c_impl_IsWord_r5 : CC := .reg [
    ⟨(some 17), none, .fadr 1 (.t 5)⟩,
    ⟨(some 18), none, .load 1 true (.t 17)⟩,
    ⟨(some 19), none, .call true (.f 63) [(.t 18)]⟩,
    ⟨(some 16), none, .mv (.t 19)⟩,
    ⟨(some 20), none, .ext (.t 16) 0⟩,
    ⟨(some 21), none, .ext (.t 16) 1⟩,
    ⟨(some 6), none, .mv (.t 20)⟩,
    ⟨(some 7), none, .mv (.t 21)⟩]
abbrev c_impl_IsWord_r6 : CC := .reg [
    ⟨(some 22), none, .mv (.t 3)⟩,
    ⟨(some 23), none, .mv (.t 6)⟩,
    ⟨(some 24), none, .bin .add (.t 23) (.c (.int .i64 1))⟩,
    ⟨(some 25), none, .bin .add (.t 22) (.t 24)⟩,
    ⟨(some 3), none, .mv (.t 25)⟩]
abbrev c_impl_IsWord_r7 : CC := .drw [
    ⟨(some 26), none, .mv (.t 7)⟩,
    ⟨(some 27), none, .un .not (.t 26)⟩,
    ⟨(some 28), none, .mv (.t 27)⟩,
    ⟨(some 29), (some (28, false)), .mv (.t 3)⟩,
    ⟨(some 30), (some (28, false)), .bin .gtr (.t 29) (.c (.int .i64 60))⟩,
    ⟨(some 31), none, .pick (.t 28) (.c (.bool true)) (.t 30)⟩,
    ⟨(some 32), none, .mv (.t 31)⟩,
    ⟨(some 33), (some (32, false)), .fadr 1 (.t 5)⟩,
    ⟨(some 34), (some (32, false)), .load 1 true (.t 33)⟩,
    ⟨(some 35), (some (32, false)), .call true (.f 64) [(.t 34)]⟩,
    ⟨(some 36), none, .pick (.t 32) (.c (.bool true)) (.t 35)⟩,
    ⟨(some 37), none, .mv (.t 36)⟩,
    ⟨(some 38), (some (37, false)), .mv (.t 4)⟩,
    ⟨(some 39), (some (37, false)), .bin .gtr (.t 38) (.c (.int .i64 0))⟩,
    ⟨(some 40), (some (37, false)), .mv (.t 39)⟩,
    ⟨(some 41), (some (40, true)), .fadr 0 (.t 1)⟩,
    ⟨(some 42), (some (40, true)), .load 1 false (.t 41)⟩,
    ⟨(some 43), (some (40, true)), .mv (.t 4)⟩,
    ⟨(some 44), (some (40, true)), .bin .sub (.t 43) (.c (.int .i64 1))⟩,
    ⟨(some 45), (some (40, true)), .iadr 2 (.t 42) (.t 44)⟩,
    ⟨(some 46), (some (40, true)), .fadr 0 (.t 45)⟩,
    ⟨(some 47), (some (40, true)), .load 1 false (.t 46)⟩,
    ⟨(some 48), (some (40, true)), .fadr 0 (.t 5)⟩,
    ⟨(some 49), (some (40, true)), .load 1 false (.t 48)⟩,
    ⟨(some 50), (some (40, true)), .beq false (.t 47) (.t 49)⟩,
    ⟨(some 51), (some (37, false)), .pick (.t 40) (.t 50) (.c (.bool false))⟩,
    ⟨(some 52), none, .pick (.t 37) (.c (.bool true)) (.t 51)⟩] [(15, 17), (16, 17), (15, 18), (16, 18), (15, 22), (16, 22), (17, 22), (18, 22), (19, 22), (20, 22), (21, 22), (15, 23), (16, 23), (17, 23), (18, 23), (19, 23), (20, 23), (21, 23)]
abbrev c_impl_IsWord_r8 : CC := .reg [
    ⟨(some 2), none, .mv (.c (.bool false))⟩]
abbrev c_impl_IsWord_k25 : CC := (.cond (.t 52) (.seq c_impl_IsWord_r8 .ret) .skip)
abbrev c_impl_IsWord_k23 : CC := (.seq c_impl_IsWord_r7 c_impl_IsWord_k25)
abbrev c_impl_IsWord_k21 : CC := (.seq c_impl_IsWord_r6 c_impl_IsWord_k23)
abbrev c_impl_IsWord_k19 : CC := (.seq c_impl_IsWord_r5 c_impl_IsWord_k21)
abbrev c_impl_IsWord_r9 : CC := .reg [
    ⟨(some 53), none, .bin .add (.t 11) (.c (.int .i64 1))⟩,
    ⟨(some 11), none, .mv (.t 53)⟩]
abbrev c_impl_IsWord_k15 : CC := (.seq (.block 1 (.seq c_impl_IsWord_r4 c_impl_IsWord_k19)) c_impl_IsWord_r9)
abbrev c_impl_IsWord_k11 : CC := (.seq (.cond (.t 12) .skip (.exit 0)) c_impl_IsWord_k15)
abbrev c_impl_IsWord_k9 : CC := (.seq c_impl_IsWord_r3 c_impl_IsWord_k11)
abbrev c_impl_IsWord_k7 : CC := (.block 0 (.loop c_impl_IsWord_k9))
abbrev c_impl_IsWord_r10 : CC := .reg [
    ⟨(some 2), none, .mv (.c (.bool true))⟩]
abbrev c_impl_IsWord_k31 : CC := (.seq c_impl_IsWord_r10 .ret)
abbrev c_impl_IsWord_k4 : CC := (.seq (.seq c_impl_IsWord_r2 c_impl_IsWord_k7) c_impl_IsWord_k31)
abbrev c_impl_IsWord_k2 : CC := (.seq c_impl_IsWord_r1 c_impl_IsWord_k4)
abbrev c_impl_IsWord_k0 : CC := (.seq c_impl_IsWord_r0 c_impl_IsWord_k2)
abbrev c_impl_IsWord : CF := ⟨54, [.tmp 2], c_impl_IsWord_k0⟩
abbrev F_impl_IsWord : Nat := 34
theorem ok_impl_IsWord : compileF Tryd.prog 34 = some c_impl_IsWord := by kernel_rfl
def fc_n_impl_IsWord (w : List (Bool × List T_rI)) (r : Bool) : FC := ⟨[.v (.ag [.sl false 2 (e_BLrIz false w)])], [.tmp 2], .val (.bool r), [.v (.ag [.sl false 2 (e_BLrIz false w)])]⟩
def T_n_impl_IsWord_8 (nodes_k8_0 : Int) (w : List (Bool × List T_rI)) (x_k8_1 : Int) : St := ([(1, .ob 1 0), (3, .pu (.val (.int .i64 nodes_k8_0))), (9, .pu (.sl false 2 (e_BLrIz false w))), (10, .pu (.val (.int .i64 (w.length : Int)))), (11, .pu (.val (.int .i64 x_k8_1)))], [(1, .box [.pu (.sl false 2 (e_BLrIz false w))])])
def n_impl_IsWord_b8   (k8 : Int → (List (Bool × List T_rI)) → Int → Option Bool) (nodes_k8_0 : Int) (w : List (Bool × List T_rI)) (x_k8_1 : Int) : Option Bool :=
  (bif (decide (x_k8_1 < (w.length : Int))) then
    ((idx w x_k8_1).bind fun (v14_8 : Bool × List T_rI) =>
    ((n_impl_NodesOf v14_8.2).bind fun (v19_8 : Int × Bool) =>
    (bif v19_8.2 then
      (bif (decide ((wr (nodes_k8_0 + (wr (v19_8.1 + 1)))) > 60)) then
        some false
      else
        ((n_impl_isZero v14_8.2).bind fun (v35_8 : Bool) =>
        (bif v35_8 then
          some false
        else
          (bif (decide (x_k8_1 > 0)) then
            ((idx w (wr (x_k8_1 - 1))).bind fun (v45_8 : Bool × List T_rI) =>
            (bif (decide (v45_8.1 = v14_8.1)) then
              some false
            else
              k8 (wr (nodes_k8_0 + (wr (v19_8.1 + 1)))) w (wr (x_k8_1 + 1))))
          else
            k8 (wr (nodes_k8_0 + (wr (v19_8.1 + 1)))) w (wr (x_k8_1 + 1))))))
    else
      some false)))
  else
    some true)
def n_impl_IsWord_l8   : Nat → Int → (List (Bool × List T_rI)) → Int → Option Bool
  | 0, _, _, _ => none
  | n + 1, nodes_k8_0, w, x_k8_1 => n_impl_IsWord_b8   (n_impl_IsWord_l8   n) nodes_k8_0 w x_k8_1
theorem n_impl_IsWord_b8_ok {I : Nat → St → Prop}    {w_0 : List (Bool × List T_rI)} {r : Bool}  {k8 : Int → (List (Bool × List T_rI)) → Int → Option Bool} (hI8 : ∀ (nodes_k8_0 : Int) (w : List (Bool × List T_rI)) (x_k8_1 : Int), k8 nodes_k8_0 w x_k8_1 = some r → I 1 (T_n_impl_IsWord_8 nodes_k8_0 w x_k8_1)) {nodes_k8_0 : Int} {w : List (Bool × List T_rI)} {x_k8_1 : Int} (h : n_impl_IsWord_b8   k8 nodes_k8_0 w x_k8_1 = some r) : wpx Tryd.prog (FC.pn (fc_n_impl_IsWord w_0 r)) c_impl_IsWord_k9 (kq Tryd.prog (fc_n_impl_IsWord w_0 r) I [.lp 1, .blk 0, .sq c_impl_IsWord_k31]) (T_n_impl_IsWord_8 nodes_k8_0 w x_k8_1).1 (T_n_impl_IsWord_8 nodes_k8_0 w x_k8_1).2 := by
  unfold n_impl_IsWord_b8 at h
  refine bif_elim h (fun c1 h => ?_) (fun c1 h => ?_)
  · refine bind_elim h (fun v14_8 c2 h => ?_)
    refine bind_elim h (fun v19_8 c3 h => ?_)
    refine bif_elim h (fun c4 h => ?_) (fun c4 h => ?_)
    · refine bif_elim h (fun c5 h => ?_) (fun c5 h => ?_)
      · cases h
        exact wayR 200 [.br c1, .row (row_ok k_BLrIz (o := false) c2), .call (n_impl_NodesOf_ok c3), .br (congrArg not c4), .br (congrArg not c4), .br (congrArg not c4), .br c5, .br c5, .br c5, .br c5, .lit true, .lit true, .lit true, .lit true, .lit true, .lit true, .fin0] (by kernel_rfl)
      · refine bind_elim h (fun v35_8 c6 h => ?_)
        refine bif_elim h (fun c7 h => ?_) (fun c7 h => ?_)
        · cases h
          exact wayR 200 [.br c1, .row (row_ok k_BLrIz (o := false) c2), .call (n_impl_NodesOf_ok c3), .br (congrArg not c4), .br (congrArg not c4), .br (congrArg not c4), .br c5, .br c5, .br c5, .call (n_impl_isZero_ok c6), .br c5, .br c7, .br c7, .br c7, .br c7, .br c7, .lit true, .fin0] (by kernel_rfl)
        · refine bif_elim h (fun c8 h => ?_) (fun c8 h => ?_)
          · refine bind_elim h (fun v45_8 c9 h => ?_)
            refine bif_elim h (fun c10 h => ?_) (fun c10 h => ?_)
            · cases h
              exact wayR 200 [.br c1, .row (row_ok k_BLrIz (o := false) c2), .call (n_impl_NodesOf_ok c3), .br (congrArg not c4), .br (congrArg not c4), .br (congrArg not c4), .br c5, .br c5, .br c5, .call (n_impl_isZero_ok c6), .br c5, .br c7, .br c7, .br c7, .br c8, .br c8, .br c8, .br c8, .br c8, .row (row_ok k_BLrIz (o := false) c9), .br c8, .br c8, .br c8, .br c8, .br c8, .br c7, .br c8, .br c7, .br c10, .fin0] (by kernel_rfl)
            · exact wayB 200 [.br c1, .row (row_ok k_BLrIz (o := false) c2), .call (n_impl_NodesOf_ok c3), .br (congrArg not c4), .br (congrArg not c4), .br (congrArg not c4), .br c5, .br c5, .br c5, .call (n_impl_isZero_ok c6), .br c5, .br c7, .br c7, .br c7, .br c8, .br c8, .br c8, .br c8, .br c8, .row (row_ok k_BLrIz (o := false) c9), .br c8, .br c8, .br c8, .br c8, .br c8, .br c7, .br c8, .br c7, .br c10, .stop [] (T_n_impl_IsWord_8 (wr (nodes_k8_0 + (wr (v19_8.1 + 1)))) w (wr (x_k8_1 + 1)))] 1 (hI8 _ _ _ h) (by kernel_rfl)
          · exact wayB 200 [.br c1, .row (row_ok k_BLrIz (o := false) c2), .call (n_impl_NodesOf_ok c3), .br (congrArg not c4), .br (congrArg not c4), .br (congrArg not c4), .br c5, .br c5, .br c5, .call (n_impl_isZero_ok c6), .br c5, .br c7, .br c7, .br c7, .br c8, .br c8, .br c8, .br c8, .br c8, .br c8, .br c8, .br c8, .br c8, .br c8, .br c7, .br c8, .br c7, .lit false, .stop [] (T_n_impl_IsWord_8 (wr (nodes_k8_0 + (wr (v19_8.1 + 1)))) w (wr (x_k8_1 + 1)))] 1 (hI8 _ _ _ h) (by kernel_rfl)
    · cases h
      exact wayR 200 [.br c1, .row (row_ok k_BLrIz (o := false) c2), .call (n_impl_NodesOf_ok c3), .br (congrArg not c4), .br (congrArg not c4), .br (congrArg not c4), .lit true, .lit true, .lit true, .lit true, .lit true, .lit true, .lit true, .lit true, .lit true, .lit true, .fin0] (by kernel_rfl)
  · cases h
    exact wayR 200 [.br c1, .fin0] (by kernel_rfl)
theorem n_impl_IsWord_l8_ok {I : Nat → St → Prop}    {w_0 : List (Bool × List T_rI)} {r : Bool}  : ∀ (n : Nat) (nodes_k8_0 : Int) (w : List (Bool × List T_rI)) (x_k8_1 : Int), n_impl_IsWord_l8   n nodes_k8_0 w x_k8_1 = some r → wpx Tryd.prog (FC.pn (fc_n_impl_IsWord w_0 r)) (.loop c_impl_IsWord_k9) (kq Tryd.prog (fc_n_impl_IsWord w_0 r) I [.blk 0, .sq c_impl_IsWord_k31]) (T_n_impl_IsWord_8 nodes_k8_0 w x_k8_1).1 (T_n_impl_IsWord_8 nodes_k8_0 w x_k8_1).2 := by
  intro n nodes_k8_0 w x_k8_1 h
  exact loopN (fc := (fc_n_impl_IsWord w_0 r)) (I := I) (j := 1) (V := Int × (List (Bool × List T_rI)) × Int) (fun n v => n_impl_IsWord_l8   n v.1 v.2.1 v.2.2) (fun v => T_n_impl_IsWord_8 v.1 v.2.1 v.2.2) r (fun v h => by simp [n_impl_IsWord_l8] at h) (fun n v h I' hne hI' => n_impl_IsWord_b8_ok   (k8 := n_impl_IsWord_l8   n) (fun nodes_k8_0 w x_k8_1 h => hI' (nodes_k8_0, w, x_k8_1) h) h) (fun I' hne => kq_congr fun i hi => hne i (notIn_ne (by rfl) i hi)) n (nodes_k8_0, w, x_k8_1) h
def n_impl_IsWord  (w : List (Bool × List T_rI)) : Option Bool :=
  n_impl_IsWord_l8 fuel 1 w 0
theorem n_impl_IsWord_way {I : Nat → St → Prop}   {w : List (Bool × List T_rI)} {r : Bool} (h : n_impl_IsWord  w = some r) : wpx Tryd.prog (FC.pn (fc_n_impl_IsWord w r)) c_impl_IsWord_k0 (kq Tryd.prog (fc_n_impl_IsWord w r) I []) (([(0, .ag [.pu (.sl false 2 (e_BLrIz false w))])], []) : St).1 (([(0, .ag [.pu (.sl false 2 (e_BLrIz false w))])], []) : St).2 := by
  unfold n_impl_IsWord at h
  exact way 200 [.len (len_ok k_BLrIz false w), .stop [] (T_n_impl_IsWord_8 1 w 0)] (n_impl_IsWord_l8_ok _ _ _ _ h) (by kernel_rfl)
theorem n_impl_IsWord_ok   {w : List (Bool × List T_rI)} {r : Bool} (h : n_impl_IsWord  w = some r) : Sound Tryd.prog F_impl_IsWord [.v (.ag [.sl false 2 (e_BLrIz false w)])] (.val (.bool r)) [.v (.ag [.sl false 2 (e_BLrIz false w)])] :=
  soundX hmix ok_impl_IsWord (fc := (fc_n_impl_IsWord w r)) rfl (S₀ := []) rfl rfl (n_impl_IsWord_way  h)

abbrev c_impl_finite_r0 : CC := .reg [
    ⟨(some 2), none, .alloc [.slice none 0 0]⟩]
abbrev c_impl_finite_r1 : CC := .reg [
    ⟨(some 3), none, .mv (.t 0)⟩,
    ⟨(some 4), none, .bin .eql (.t 3) (.c (.int .i64 0))⟩]
abbrev c_impl_finite_r2 : CC := .reg [
    ⟨(some 5), none, .build [.slice none 0 0] []⟩,
    ⟨none, none, .store 1 (.t 2) (.t 5)⟩]
abbrev c_impl_finite_k5 : CC := (.cond (.t 4) (.seq c_impl_finite_r2 .ret) .skip)
abbrev c_impl_finite_r3 : CC := .reg [
    ⟨(some 6), none, .mv (.t 0)⟩,
    ⟨(some 7), none, .build [.slice none 0 0, .int .i64 0] [(1, 1, (.t 6))]⟩,
    ⟨(some 8), none, .buildSl 2 1 [(0, (.t 7))]⟩,
    ⟨(some 9), none, .build [.slice none 0 0] [(0, 1, (.t 8))]⟩,
    ⟨none, none, .store 1 (.t 2) (.t 9)⟩]
abbrev c_impl_finite_k10 : CC := (.seq c_impl_finite_r3 .ret)
abbrev c_impl_finite_k2 : CC := (.seq (.seq c_impl_finite_r1 c_impl_finite_k5) c_impl_finite_k10)
abbrev c_impl_finite_k0 : CC := (.seq c_impl_finite_r0 c_impl_finite_k2)
abbrev c_impl_finite : CF := ⟨10, [.cell 2 1 true], c_impl_finite_k0⟩
abbrev F_impl_finite : Nat := 26
theorem ok_impl_finite : compileF Tryd.prog 26 = some c_impl_finite := by kernel_rfl
def fc_n_impl_finite (n_ : Int) (r : List T_rI) : FC := ⟨[.v (.val (.int .i64 n_))], [.cell 2 1 true], .ag [.sl true 2 (e_rI false r)], [.v (.val (.int .i64 n_))]⟩
def n_impl_finite  (n_ : Int) : Option (List T_rI) :=
  (bif (decide (n_ = 0)) then
    some []
  else
    some [(T_rI.mk [] n_)])
theorem n_impl_finite_way {I : Nat → St → Prop}   {n_ : Int} {r : List T_rI} (h : n_impl_finite  n_ = some r) : wpx Tryd.prog (FC.pn (fc_n_impl_finite n_ r)) c_impl_finite_k0 (kq Tryd.prog (fc_n_impl_finite n_ r) I []) (([(0, .pu (.val (.int .i64 n_)))], []) : St).1 (([(0, .pu (.val (.int .i64 n_)))], []) : St).2 := by
  unfold n_impl_finite at h
  refine bif_elim h (fun c1 h => ?_) (fun c1 h => ?_)
  · cases h
    exact wayR 200 [.br c1, .finr (DLe.ag (DLes.c (DLe.nil true 2) DLes.z))] (by kernel_rfl)
  · cases h
    exact wayR 200 [.br c1, .pass 2, .gle 8 (gle_ok (sz := 2) (rows := [[.val (.slice none 0 0), .val (.int .i64 n_)]]) (rows' := e_rI false [(T_rI.mk [] n_)]) (DLLes.c (DLes.c (DLe.nil _ _) (DLes.c (DLe.refl _) DLes.z)) DLLes.z)), .fin0] (by kernel_rfl)
theorem n_impl_finite_ok   {n_ : Int} {r : List T_rI} (h : n_impl_finite  n_ = some r) : Sound Tryd.prog F_impl_finite [.v (.val (.int .i64 n_))] (.ag [.sl true 2 (e_rI false r)]) [.v (.val (.int .i64 n_))] :=
  soundX hmix ok_impl_finite (fc := (fc_n_impl_finite n_ r)) rfl (S₀ := []) rfl rfl (n_impl_finite_way  h)

abbrev c_impl_ordinalText_r0 : CC := .reg [
    ⟨(some 2), none, .box (.t 0)⟩,
    ⟨(some 4), none, .mv (.c (.string ⟨#[]⟩))⟩]
abbrev c_impl_ordinalText_r1 : CC := .reg [
    ⟨(some 9), none, .buildSl 1 0 []⟩,
    ⟨(some 5), none, .mv (.t 9)⟩]
abbrev c_impl_ordinalText_r2 : CC := .reg [
    ⟨(some 10), none, .fadr 0 (.t 2)⟩,
    ⟨(some 11), none, .load 1 false (.t 10)⟩,
    ⟨(some 12), none, .len false (.t 11)⟩,
    ⟨(some 13), none, .mv (.c (.int .i64 0))⟩]
abbrev c_impl_ordinalText_r3 : CC := .reg [
    ⟨(some 14), none, .bin .lss (.t 13) (.t 12)⟩]
abbrev c_impl_ordinalText_r4 : CC := .reg [
    ⟨(some 15), none, .iadr 2 (.t 11) (.t 13)⟩,
    ⟨(some 16), none, .load 2 true (.t 15)⟩,
    ⟨(some 7), none, .alloc [.slice none 0 0, .int .i64 0]⟩,
    ⟨none, none, .store 2 (.t 7) (.t 16)⟩]
abbrev c_impl_ordinalText_r5 : CC := .reg [
    ⟨(some 17), none, .mv (.t 1)⟩,
    ⟨(some 8), none, .mv (.t 17)⟩]
abbrev c_impl_ordinalText_r6 : CC := .reg [
    ⟨(some 19), none, .fadr 0 (.t 7)⟩,
    ⟨(some 20), none, .load 1 true (.t 19)⟩,
    ⟨(some 21), none, .call true (.f 64) [(.t 20)]⟩,
    ⟨(some 18), none, .mv (.t 21)⟩]
abbrev c_impl_ordinalText_r7 : CC := .reg [
    ⟨(some 22), none, .mv (.t 5)⟩,
    ⟨(some 23), none, .fadr 1 (.t 7)⟩,
    ⟨(some 24), none, .load 1 false (.t 23)⟩,
    ⟨(some 25), none, .call true (.f 67) [(.t 24)]⟩,
    ⟨(some 26), none, .buildSl 1 1 [(0, (.t 25))]⟩,
    ⟨(some 27), none, .app 1 16 (.t 22) (.t 26)⟩,
    ⟨(some 5), none, .mv (.t 27)⟩]
abbrev c_impl_ordinalText_r8 : CC := .drw [
    ⟨(some 29), none, .fadr 0 (.t 7)⟩,
    ⟨(some 30), none, .load 1 true (.t 29)⟩,
    ⟨(some 31), none, .call false (.f 26) [(.c (.int .i64 1))]⟩,
    ⟨(some 32), none, .call true (.f 35) [(.t 30), (.t 31)]⟩,
    ⟨(some 33), none, .bin .neq (.t 32) (.c (.int .i64 0))⟩,
    ⟨(some 28), none, .mv (.t 33)⟩] [(0, 2), (1, 2)]
abbrev c_impl_ordinalText_r9 : CC := .reg [
    ⟨(some 34), none, .mv (.t 8)⟩,
    ⟨(some 35), none, .fadr 0 (.t 7)⟩,
    ⟨(some 36), none, .load 1 true (.t 35)⟩,
    ⟨(some 37), none, .mv (.t 1)⟩,
    ⟨(some 38), none, .call true (.f 36) [(.t 36), (.t 37)]⟩,
    ⟨(some 39), none, .bin .add (.c (.string ⟨#[94, 40]⟩)) (.t 38)⟩,
    ⟨(some 40), none, .bin .add (.t 39) (.c (.string ⟨#[41]⟩))⟩,
    ⟨(some 41), none, .bin .add (.t 34) (.t 40)⟩,
    ⟨(some 8), none, .mv (.t 41)⟩]
abbrev c_impl_ordinalText_k31 : CC := (.cond (.t 28) c_impl_ordinalText_r9 .skip)
abbrev c_impl_ordinalText_k25 : CC := (.cond (.t 18) (.seq c_impl_ordinalText_r7 (.exit 1)) (.seq c_impl_ordinalText_r8 c_impl_ordinalText_k31))
abbrev c_impl_ordinalText_r10 : CC := .reg [
    ⟨(some 42), none, .fadr 1 (.t 7)⟩,
    ⟨(some 43), none, .load 1 false (.t 42)⟩,
    ⟨(some 44), none, .bin .neq (.t 43) (.c (.int .i64 1))⟩]
abbrev c_impl_ordinalText_r11 : CC := .reg [
    ⟨(some 45), none, .mv (.t 8)⟩,
    ⟨(some 46), none, .fadr 1 (.t 7)⟩,
    ⟨(some 47), none, .load 1 false (.t 46)⟩,
    ⟨(some 48), none, .call true (.f 67) [(.t 47)]⟩,
    ⟨(some 49), none, .bin .add (.c (.string ⟨#[42]⟩)) (.t 48)⟩,
    ⟨(some 50), none, .bin .add (.t 45) (.t 49)⟩,
    ⟨(some 8), none, .mv (.t 50)⟩]
abbrev c_impl_ordinalText_k37 : CC := (.cond (.t 44) c_impl_ordinalText_r11 .skip)
abbrev c_impl_ordinalText_r12 : CC := .reg [
    ⟨(some 51), none, .mv (.t 5)⟩,
    ⟨(some 52), none, .mv (.t 8)⟩,
    ⟨(some 53), none, .buildSl 1 1 [(0, (.t 52))]⟩,
    ⟨(some 54), none, .app 1 16 (.t 51) (.t 53)⟩,
    ⟨(some 5), none, .mv (.t 54)⟩]
abbrev c_impl_ordinalText_k34 : CC := (.seq (.seq c_impl_ordinalText_r10 c_impl_ordinalText_k37) c_impl_ordinalText_r12)
abbrev c_impl_ordinalText_k21 : CC := (.seq (.block 2 (.seq c_impl_ordinalText_r6 c_impl_ordinalText_k25)) c_impl_ordinalText_k34)
abbrev c_impl_ordinalText_k19 : CC := (.seq c_impl_ordinalText_r5 c_impl_ordinalText_k21)
abbrev c_impl_ordinalText_r13 : CC := .reg [
    ⟨(some 55), none, .bin .add (.t 13) (.c (.int .i64 1))⟩,
    ⟨(some 13), none, .mv (.t 55)⟩]
abbrev c_impl_ordinalText_k15 : CC := (.seq (.block 1 (.seq c_impl_ordinalText_r4 c_impl_ordinalText_k19)) c_impl_ordinalText_r13)
abbrev c_impl_ordinalText_k11 : CC := (.seq (.cond (.t 14) .skip (.exit 0)) c_impl_ordinalText_k15)
abbrev c_impl_ordinalText_k9 : CC := (.seq c_impl_ordinalText_r3 c_impl_ordinalText_k11)
abbrev c_impl_ordinalText_k7 : CC := (.block 0 (.loop c_impl_ordinalText_k9))
abbrev c_impl_ordinalText_r14 : CC := .reg [
    ⟨(some 56), none, .mv (.t 5)⟩,
    ⟨(some 57), none, .len false (.t 56)⟩,
    ⟨(some 58), none, .bin .eql (.t 57) (.c (.int .i64 0))⟩]
abbrev c_impl_ordinalText_r15 : CC := .reg [
    ⟨(some 4), none, .mv (.c (.string ⟨#[48]⟩))⟩]
abbrev c_impl_ordinalText_k45 : CC := (.cond (.t 58) (.seq c_impl_ordinalText_r15 .ret) .skip)
abbrev c_impl_ordinalText_r16 : CC := .reg [
    ⟨(some 59), none, .mv (.t 5)⟩,
    ⟨(some 60), none, .call true (.f 68) [(.t 59), (.c (.string ⟨#[43]⟩))]⟩,
    ⟨(some 4), none, .mv (.t 60)⟩]
abbrev c_impl_ordinalText_k50 : CC := (.seq c_impl_ordinalText_r16 .ret)
abbrev c_impl_ordinalText_k42 : CC := (.seq (.seq c_impl_ordinalText_r14 c_impl_ordinalText_k45) c_impl_ordinalText_k50)
abbrev c_impl_ordinalText_k4 : CC := (.seq (.seq c_impl_ordinalText_r2 c_impl_ordinalText_k7) c_impl_ordinalText_k42)
abbrev c_impl_ordinalText_k2 : CC := (.seq c_impl_ordinalText_r1 c_impl_ordinalText_k4)
abbrev c_impl_ordinalText_k0 : CC := (.seq c_impl_ordinalText_r0 c_impl_ordinalText_k2)
abbrev c_impl_ordinalText : CF := ⟨61, [.tmp 4], c_impl_ordinalText_k0⟩
abbrev F_impl_ordinalText : Nat := 36
theorem ok_impl_ordinalText : compileF Tryd.prog 36 = some c_impl_ordinalText := by kernel_rfl
def fc_n_impl_ordinalText (a : List T_rI) (w : ByteArray) (r : ByteArray) : FC := ⟨[.v (.ag [.sl false 2 (e_rI false a)]), .v (.val (.string w))], [.tmp 4], .val (.string r), [.v (.ag [.sl false 2 (e_rI false a)]), .v (.val (.string w))]⟩
def T_n_impl_ordinalText_34 (w : ByteArray) (part_k34_0 : ByteArray) (a : List T_rI) (x_k34_2 : Int) (v15_8 : T_rI) (parts_k34_1 : List ByteArray) : St := ([(1, .pu (.val (.string w))), (5, .so 500320 0 (e_S false parts_k34_1).length), (7, .ob 7 0), (8, .pu (.val (.string part_k34_0))), (11, .pu (.sl false 2 (e_rI false a))), (12, .pu (.val (.int .i64 (a.length : Int)))), (13, .pu (.val (.int .i64 x_k34_2)))], [(7, .box [.pu (.sl false 2 (e_rI false v15_8.c0)), .pu (.val (.int .i64 v15_8.c1))]), (500320, .slc 0 (.sl true 1 (e_S false parts_k34_1)))])
def T_n_impl_ordinalText_8 (w : ByteArray) (a : List T_rI) (x_k8_1 : Int) (parts_k8_0 : List ByteArray) : St := ([(1, .pu (.val (.string w))), (5, .so 500320 0 (e_S false parts_k8_0).length), (11, .pu (.sl false 2 (e_rI false a))), (12, .pu (.val (.int .i64 (a.length : Int)))), (13, .pu (.val (.int .i64 x_k8_1)))], [(500320, .slc 0 (.sl true 1 (e_S false parts_k8_0)))])
def n_impl_ordinalText_j34 (rf_n_impl_ordinalText : List T_rI → ByteArray → Option ByteArray) (k8 : ByteArray → List T_rI → Int → List ByteArray → Option ByteArray) (w : ByteArray) (part_k34_0 : ByteArray) (a : List T_rI) (x_k34_2 : Int) (v15_8 : T_rI) (parts_k34_1 : List ByteArray) : Option ByteArray :=
  (bif (decide (v15_8.c1 = 1)) then
    ((appn 16 parts_k34_1 [part_k34_0]).bind fun (v54_34 : List ByteArray) =>
    k8 w a (wr (x_k34_2 + 1)) v54_34)
  else
    ((n_strconv_Itoa v15_8.c1).bind fun (v48_34 : ByteArray) =>
    ((cats (⟨#[42]⟩ : ByteArray) v48_34).bind fun (v49_34 : ByteArray) =>
    ((cats part_k34_0 ((⟨#[42]⟩ : ByteArray) ++ v48_34)).bind fun (v50_34 : ByteArray) =>
    ((appn 16 parts_k34_1 [(part_k34_0 ++ ((⟨#[42]⟩ : ByteArray) ++ v48_34))]).bind fun (v54_34_2 : List ByteArray) =>
    k8 w a (wr (x_k34_2 + 1)) v54_34_2)))))
theorem n_impl_ordinalText_j34_ok {I : Nat → St → Prop} {rf_n_impl_ordinalText : List T_rI → ByteArray → Option ByteArray} (hrf_n_impl_ordinalText : ∀ (a : List T_rI) (w : ByteArray) (r : ByteArray), rf_n_impl_ordinalText a w = some r → Sound Tryd.prog F_impl_ordinalText [.v (.ag [.sl false 2 (e_rI false a)]), .v (.val (.string w))] (.val (.string r)) [.v (.ag [.sl false 2 (e_rI false a)]), .v (.val (.string w))]) {k8 : ByteArray → List T_rI → Int → List ByteArray → Option ByteArray} {a_0 : List T_rI} {w_0 : ByteArray} {r : ByteArray} (hI8 : ∀ (w : ByteArray) (a : List T_rI) (x_k8_1 : Int) (parts_k8_0 : List ByteArray), k8 w a x_k8_1 parts_k8_0 = some r → I 1 (T_n_impl_ordinalText_8 w a x_k8_1 parts_k8_0)) {w : ByteArray} {part_k34_0 : ByteArray} {a : List T_rI} {x_k34_2 : Int} {v15_8 : T_rI} {parts_k34_1 : List ByteArray} (h : n_impl_ordinalText_j34 rf_n_impl_ordinalText k8 w part_k34_0 a x_k34_2 v15_8 parts_k34_1 = some r) : wpx Tryd.prog (FC.pn (fc_n_impl_ordinalText a_0 w_0 r)) c_impl_ordinalText_k34 (kq Tryd.prog (fc_n_impl_ordinalText a_0 w_0 r) I [.blk 1, .sq c_impl_ordinalText_r13, .lp 1, .blk 0, .sq c_impl_ordinalText_k42]) (T_n_impl_ordinalText_34 w part_k34_0 a x_k34_2 v15_8 parts_k34_1).1 (T_n_impl_ordinalText_34 w part_k34_0 a x_k34_2 v15_8 parts_k34_1).2 := by
  unfold n_impl_ordinalText_j34 at h
  refine bif_elim h (fun c1 h => ?_) (fun c1 h => ?_)
  · refine bind_elim h (fun v54_34 c2 h => ?_)
    exact wayB 200 [.br (congrArg not c1), .app (app_ok k_S c2), .stop [] (T_n_impl_ordinalText_8 w a (wr (x_k34_2 + 1)) v54_34)] 1 (hI8 _ _ _ _ h) (by kernel_rfl)
  · refine bind_elim h (fun v48_34 c3 h => ?_)
    refine bind_elim h (fun v49_34 c4 h => ?_)
    refine bind_elim h (fun v50_34 c5 h => ?_)
    refine bind_elim h (fun v54_34_2 c6 h => ?_)
    exact wayB 200 [.br (congrArg not c1), .call (n_strconv_Itoa_ok c3), .cat (cat_ok c4), .cat (cat_ok c5), .app (app_ok k_S c6), .stop [] (T_n_impl_ordinalText_8 w a (wr (x_k34_2 + 1)) v54_34_2)] 1 (hI8 _ _ _ _ h) (by kernel_rfl)
def n_impl_ordinalText_b8 (rf_n_impl_ordinalText : List T_rI → ByteArray → Option ByteArray)  (k8 : ByteArray → List T_rI → Int → List ByteArray → Option ByteArray) (w : ByteArray) (a : List T_rI) (x_k8_1 : Int) (parts_k8_0 : List ByteArray) : Option ByteArray :=
  (bif (decide (x_k8_1 < (a.length : Int))) then
    ((idx a x_k8_1).bind fun (v15_8 : T_rI) =>
    ((n_impl_isZero v15_8.c0).bind fun (v21_8 : Bool) =>
    (bif v21_8 then
      ((n_strconv_Itoa v15_8.c1).bind fun (v25_8 : ByteArray) =>
      ((appn 16 parts_k8_0 [v25_8]).bind fun (v27_8 : List ByteArray) =>
      k8 w a (wr (x_k8_1 + 1)) v27_8))
    else
      ((n_impl_finite 1).bind fun (v31_8 : List T_rI) =>
      ((n_impl_cmp v15_8.c0 v31_8).bind fun (v32_8 : Int) =>
      (bif (decide (v32_8 = 0)) then
        n_impl_ordinalText_j34 rf_n_impl_ordinalText k8 w w a x_k8_1 v15_8 parts_k8_0
      else
        ((rf_n_impl_ordinalText v15_8.c0 w).bind fun (v38_8 : ByteArray) =>
        ((cats (⟨#[94, 40]⟩ : ByteArray) v38_8).bind fun (v39_8 : ByteArray) =>
        ((cats ((⟨#[94, 40]⟩ : ByteArray) ++ v38_8) (⟨#[41]⟩ : ByteArray)).bind fun (v40_8 : ByteArray) =>
        ((cats w (((⟨#[94, 40]⟩ : ByteArray) ++ v38_8) ++ (⟨#[41]⟩ : ByteArray))).bind fun (v41_8 : ByteArray) =>
        n_impl_ordinalText_j34 rf_n_impl_ordinalText k8 w (w ++ (((⟨#[94, 40]⟩ : ByteArray) ++ v38_8) ++ (⟨#[41]⟩ : ByteArray))) a x_k8_1 v15_8 parts_k8_0))))))))))
  else
    (bif (decide ((parts_k8_0.length : Int) = 0)) then
      some (⟨#[48]⟩ : ByteArray)
    else
      ((n_strings_Join parts_k8_0 (⟨#[43]⟩ : ByteArray)).bind fun (v60_8 : ByteArray) =>
      some v60_8)))
def n_impl_ordinalText_l8 (rf_n_impl_ordinalText : List T_rI → ByteArray → Option ByteArray)  : Nat → ByteArray → List T_rI → Int → List ByteArray → Option ByteArray
  | 0, _, _, _, _ => none
  | n + 1, w, a, x_k8_1, parts_k8_0 => n_impl_ordinalText_b8 rf_n_impl_ordinalText  (n_impl_ordinalText_l8 rf_n_impl_ordinalText  n) w a x_k8_1 parts_k8_0
theorem n_impl_ordinalText_b8_ok {I : Nat → St → Prop} {rf_n_impl_ordinalText : List T_rI → ByteArray → Option ByteArray} (hrf_n_impl_ordinalText : ∀ (a : List T_rI) (w : ByteArray) (r : ByteArray), rf_n_impl_ordinalText a w = some r → Sound Tryd.prog F_impl_ordinalText [.v (.ag [.sl false 2 (e_rI false a)]), .v (.val (.string w))] (.val (.string r)) [.v (.ag [.sl false 2 (e_rI false a)]), .v (.val (.string w))])  {a_0 : List T_rI} {w_0 : ByteArray} {r : ByteArray}  {k8 : ByteArray → List T_rI → Int → List ByteArray → Option ByteArray} (hI8 : ∀ (w : ByteArray) (a : List T_rI) (x_k8_1 : Int) (parts_k8_0 : List ByteArray), k8 w a x_k8_1 parts_k8_0 = some r → I 1 (T_n_impl_ordinalText_8 w a x_k8_1 parts_k8_0)) {w : ByteArray} {a : List T_rI} {x_k8_1 : Int} {parts_k8_0 : List ByteArray} (h : n_impl_ordinalText_b8 rf_n_impl_ordinalText  k8 w a x_k8_1 parts_k8_0 = some r) : wpx Tryd.prog (FC.pn (fc_n_impl_ordinalText a_0 w_0 r)) c_impl_ordinalText_k9 (kq Tryd.prog (fc_n_impl_ordinalText a_0 w_0 r) I [.lp 1, .blk 0, .sq c_impl_ordinalText_k42]) (T_n_impl_ordinalText_8 w a x_k8_1 parts_k8_0).1 (T_n_impl_ordinalText_8 w a x_k8_1 parts_k8_0).2 := by
  unfold n_impl_ordinalText_b8 at h
  refine bif_elim h (fun c1 h => ?_) (fun c1 h => ?_)
  · refine bind_elim h (fun v15_8 c2 h => ?_)
    refine bind_elim h (fun v21_8 c3 h => ?_)
    refine bif_elim h (fun c4 h => ?_) (fun c4 h => ?_)
    · refine bind_elim h (fun v25_8 c5 h => ?_)
      refine bind_elim h (fun v27_8 c6 h => ?_)
      exact wayB 200 [.br c1, .row (row_ok k_rI (o := false) c2), .call (n_impl_isZero_ok c3), .br c4, .call (n_strconv_Itoa_ok c5), .app (app_ok k_S c6), .stop [] (T_n_impl_ordinalText_8 w a (wr (x_k8_1 + 1)) v27_8)] 1 (hI8 _ _ _ _ h) (by kernel_rfl)
    · refine bind_elim h (fun v31_8 c7 h => ?_)
      refine bind_elim h (fun v32_8 c8 h => ?_)
      refine bif_elim h (fun c9 h => ?_) (fun c9 h => ?_)
      · exact way 200 [.br c1, .row (row_ok k_rI (o := false) c2), .call (n_impl_isZero_ok c3), .br c4, .call (n_impl_finite_ok c7), .pub (pub_ok k_rI false v31_8), .call (n_impl_cmp_ok c8), .br (congrArg not c9), .pass 1, .cut [] (T_n_impl_ordinalText_34 w w a x_k8_1 v15_8 parts_k8_0)] (n_impl_ordinalText_j34_ok hrf_n_impl_ordinalText hI8 h) (by kernel_rfl)
      · refine bind_elim h (fun v38_8 c10 h => ?_)
        refine bind_elim h (fun v39_8 c11 h => ?_)
        refine bind_elim h (fun v40_8 c12 h => ?_)
        refine bind_elim h (fun v41_8 c13 h => ?_)
        exact way 200 [.br c1, .row (row_ok k_rI (o := false) c2), .call (n_impl_isZero_ok c3), .br c4, .call (n_impl_finite_ok c7), .pub (pub_ok k_rI false v31_8), .call (n_impl_cmp_ok c8), .br (congrArg not c9), .call (hrf_n_impl_ordinalText _ _ _ c10), .cat (cat_ok c11), .cat (cat_ok c12), .cat (cat_ok c13), .cut [] (T_n_impl_ordinalText_34 w (w ++ (((⟨#[94, 40]⟩ : ByteArray) ++ v38_8) ++ (⟨#[41]⟩ : ByteArray))) a x_k8_1 v15_8 parts_k8_0)] (n_impl_ordinalText_j34_ok hrf_n_impl_ordinalText hI8 h) (by kernel_rfl)
  · refine bif_elim h (fun c14 h => ?_) (fun c14 h => ?_)
    · cases h
      exact wayR 200 [.br c1, .len (len_ok k_S false parts_k8_0), .br c14, .fin0] (by kernel_rfl)
    · refine bind_elim h (fun v60_8 c15 h => ?_)
      cases h
      exact wayR 200 [.br c1, .len (len_ok k_S false parts_k8_0), .br c14, .pub (pub_ok k_S false parts_k8_0), .call (n_strings_Join_ok c15), .fin0] (by kernel_rfl)
theorem n_impl_ordinalText_l8_ok {I : Nat → St → Prop} {rf_n_impl_ordinalText : List T_rI → ByteArray → Option ByteArray} (hrf_n_impl_ordinalText : ∀ (a : List T_rI) (w : ByteArray) (r : ByteArray), rf_n_impl_ordinalText a w = some r → Sound Tryd.prog F_impl_ordinalText [.v (.ag [.sl false 2 (e_rI false a)]), .v (.val (.string w))] (.val (.string r)) [.v (.ag [.sl false 2 (e_rI false a)]), .v (.val (.string w))])  {a_0 : List T_rI} {w_0 : ByteArray} {r : ByteArray}  : ∀ (n : Nat) (w : ByteArray) (a : List T_rI) (x_k8_1 : Int) (parts_k8_0 : List ByteArray), n_impl_ordinalText_l8 rf_n_impl_ordinalText  n w a x_k8_1 parts_k8_0 = some r → wpx Tryd.prog (FC.pn (fc_n_impl_ordinalText a_0 w_0 r)) (.loop c_impl_ordinalText_k9) (kq Tryd.prog (fc_n_impl_ordinalText a_0 w_0 r) I [.blk 0, .sq c_impl_ordinalText_k42]) (T_n_impl_ordinalText_8 w a x_k8_1 parts_k8_0).1 (T_n_impl_ordinalText_8 w a x_k8_1 parts_k8_0).2 := by
  intro n w a x_k8_1 parts_k8_0 h
  exact loopN (fc := (fc_n_impl_ordinalText a_0 w_0 r)) (I := I) (j := 1) (V := ByteArray × List T_rI × Int × List ByteArray) (fun n v => n_impl_ordinalText_l8 rf_n_impl_ordinalText  n v.1 v.2.1 v.2.2.1 v.2.2.2) (fun v => T_n_impl_ordinalText_8 v.1 v.2.1 v.2.2.1 v.2.2.2) r (fun v h => by simp [n_impl_ordinalText_l8] at h) (fun n v h I' hne hI' => n_impl_ordinalText_b8_ok hrf_n_impl_ordinalText  (k8 := n_impl_ordinalText_l8 rf_n_impl_ordinalText  n) (fun w a x_k8_1 parts_k8_0 h => hI' (w, a, x_k8_1, parts_k8_0) h) h) (fun I' hne => kq_congr fun i hi => hne i (notIn_ne (by rfl) i hi)) n (w, a, x_k8_1, parts_k8_0) h
def n_impl_ordinalText_B (rf_n_impl_ordinalText : List T_rI → ByteArray → Option ByteArray) (a : List T_rI) (w : ByteArray) : Option ByteArray :=
  n_impl_ordinalText_l8 rf_n_impl_ordinalText fuel w a 0 []
theorem n_impl_ordinalText_B_way {I : Nat → St → Prop} {rf_n_impl_ordinalText : List T_rI → ByteArray → Option ByteArray} (hrf_n_impl_ordinalText : ∀ (a : List T_rI) (w : ByteArray) (r : ByteArray), rf_n_impl_ordinalText a w = some r → Sound Tryd.prog F_impl_ordinalText [.v (.ag [.sl false 2 (e_rI false a)]), .v (.val (.string w))] (.val (.string r)) [.v (.ag [.sl false 2 (e_rI false a)]), .v (.val (.string w))]) {a : List T_rI} {w : ByteArray} {r : ByteArray} (h : n_impl_ordinalText_B rf_n_impl_ordinalText a w = some r) : wpx Tryd.prog (FC.pn (fc_n_impl_ordinalText a w r)) c_impl_ordinalText_k0 (kq Tryd.prog (fc_n_impl_ordinalText a w r) I []) (([(0, .ag [.pu (.sl false 2 (e_rI false a))]), (1, .pu (.val (.string w)))], []) : St).1 (([(0, .ag [.pu (.sl false 2 (e_rI false a))]), (1, .pu (.val (.string w)))], []) : St).2 := by
  unfold n_impl_ordinalText_B at h
  exact way 200 [.len (len_ok k_rI false a), .stop [(500320, 9)] (T_n_impl_ordinalText_8 w a 0 [])] (n_impl_ordinalText_l8_ok hrf_n_impl_ordinalText _ _ _ _ _ h) (by kernel_rfl)
theorem n_impl_ordinalText_B_ok {rf_n_impl_ordinalText : List T_rI → ByteArray → Option ByteArray} (hrf_n_impl_ordinalText : ∀ (a : List T_rI) (w : ByteArray) (r : ByteArray), rf_n_impl_ordinalText a w = some r → Sound Tryd.prog F_impl_ordinalText [.v (.ag [.sl false 2 (e_rI false a)]), .v (.val (.string w))] (.val (.string r)) [.v (.ag [.sl false 2 (e_rI false a)]), .v (.val (.string w))]) {a : List T_rI} {w : ByteArray} {r : ByteArray} (h : n_impl_ordinalText_B rf_n_impl_ordinalText a w = some r) : Sound Tryd.prog F_impl_ordinalText [.v (.ag [.sl false 2 (e_rI false a)]), .v (.val (.string w))] (.val (.string r)) [.v (.ag [.sl false 2 (e_rI false a)]), .v (.val (.string w))] :=
  soundX hmix ok_impl_ordinalText (fc := (fc_n_impl_ordinalText a w r)) rfl (S₀ := []) rfl rfl (n_impl_ordinalText_B_way hrf_n_impl_ordinalText h)
def n_impl_ordinalText_N : Nat → List T_rI → ByteArray → Option ByteArray
  | 0, _, _ => none
  | n + 1, a, w => n_impl_ordinalText_B (n_impl_ordinalText_N n) a w
theorem n_impl_ordinalText_NN : ∀ n : Nat, (∀ (a : List T_rI) (w : ByteArray) (r : ByteArray), n_impl_ordinalText_N n a w = some r → Sound Tryd.prog F_impl_ordinalText [.v (.ag [.sl false 2 (e_rI false a)]), .v (.val (.string w))] (.val (.string r)) [.v (.ag [.sl false 2 (e_rI false a)]), .v (.val (.string w))]) ∧ True := by
  intro n
  induction n with
  | zero => refine ⟨?_, ?_⟩ <;> first | trivial | (intros; rename_i h; cases h)
  | succ n ih => exact ⟨fun _ _ r h => n_impl_ordinalText_B_ok ih.1 h, trivial⟩
def n_impl_ordinalText (a : List T_rI) (w : ByteArray) : Option ByteArray := n_impl_ordinalText_N fuel a w
theorem n_impl_ordinalText_ok {a : List T_rI} {w : ByteArray} {r : ByteArray} (h : n_impl_ordinalText a w = some r) : Sound Tryd.prog F_impl_ordinalText [.v (.ag [.sl false 2 (e_rI false a)]), .v (.val (.string w))] (.val (.string r)) [.v (.ag [.sl false 2 (e_rI false a)]), .v (.val (.string w))] := (n_impl_ordinalText_NN fuel).1 a w r h

abbrev c_impl_WordText_r0 : CC := .reg [
    ⟨(some 1), none, .box (.t 0)⟩,
    ⟨(some 2), none, .mv (.c (.string ⟨#[]⟩))⟩,
    ⟨(some 3), none, .mv (.c (.bool false))⟩]
abbrev c_impl_WordText_r1 : CC := .reg [
    ⟨(some 8), none, .load 1 true (.t 1)⟩,
    ⟨(some 9), none, .call true (.f 34) [(.t 8)]⟩,
    ⟨(some 10), none, .un .not (.t 9)⟩]
abbrev c_impl_WordText_r2 : CC := .reg [
    ⟨(some 2), none, .mv (.c (.string ⟨#[]⟩))⟩,
    ⟨(some 3), none, .mv (.c (.bool false))⟩]
abbrev c_impl_WordText_k5 : CC := (.cond (.t 10) (.seq c_impl_WordText_r2 .ret) .skip)
abbrev c_impl_WordText_r3 : CC := .reg [
    ⟨(some 4), none, .mv (.c (.string ⟨#[]⟩))⟩]
abbrev c_impl_WordText_r4 : CC := .reg [
    ⟨(some 11), none, .fadr 0 (.t 1)⟩,
    ⟨(some 12), none, .load 1 false (.t 11)⟩,
    ⟨(some 13), none, .len false (.t 12)⟩,
    ⟨(some 14), none, .mv (.c (.int .i64 0))⟩]
abbrev c_impl_WordText_r5 : CC := .reg [
    ⟨(some 15), none, .bin .lss (.t 14) (.t 13)⟩]
abbrev c_impl_WordText_r6 : CC := .reg [
    ⟨(some 16), none, .iadr 2 (.t 12) (.t 14)⟩,
    ⟨(some 17), none, .load 2 true (.t 16)⟩,
    ⟨(some 6), none, .alloc [.bool false, .slice none 0 0]⟩,
    ⟨none, none, .store 2 (.t 6) (.t 17)⟩]
abbrev c_impl_WordText_r7 : CC := .reg [
    ⟨(some 7), none, .mv (.c (.string ⟨#[45]⟩))⟩]
abbrev c_impl_WordText_r8 : CC := .reg [
    ⟨(some 18), none, .fadr 0 (.t 6)⟩,
    ⟨(some 19), none, .load 1 false (.t 18)⟩]
abbrev c_impl_WordText_r9 : CC := .reg [
    ⟨(some 7), none, .mv (.c (.string ⟨#[43]⟩))⟩]
abbrev c_impl_WordText_k32 : CC := (.cond (.t 19) c_impl_WordText_r9 .skip)
abbrev c_impl_WordText_r10 : CC := .reg [
    ⟨(some 20), none, .mv (.t 4)⟩,
    ⟨(some 21), none, .mv (.t 7)⟩,
    ⟨(some 22), none, .bin .add (.t 20) (.t 21)⟩,
    ⟨(some 4), none, .mv (.t 22)⟩]
abbrev c_impl_WordText_r11 : CC := .drw [
    ⟨(some 23), none, .fadr 1 (.t 6)⟩,
    ⟨(some 24), none, .load 1 true (.t 23)⟩,
    ⟨(some 25), none, .call false (.f 26) [(.c (.int .i64 1))]⟩,
    ⟨(some 26), none, .call true (.f 35) [(.t 24), (.t 25)]⟩,
    ⟨(some 27), none, .bin .neq (.t 26) (.c (.int .i64 0))⟩] [(0, 2), (1, 2)]
abbrev c_impl_WordText_r12 : CC := .reg [
    ⟨(some 28), none, .mv (.t 4)⟩,
    ⟨(some 29), none, .fadr 1 (.t 6)⟩,
    ⟨(some 30), none, .load 1 true (.t 29)⟩,
    ⟨(some 31), none, .call true (.f 36) [(.t 30), (.c (.string ⟨#[119]⟩))]⟩,
    ⟨(some 32), none, .bin .add (.c (.string ⟨#[40]⟩)) (.t 31)⟩,
    ⟨(some 33), none, .bin .add (.t 32) (.c (.string ⟨#[41]⟩))⟩,
    ⟨(some 34), none, .bin .add (.t 28) (.t 33)⟩,
    ⟨(some 4), none, .mv (.t 34)⟩]
abbrev c_impl_WordText_k39 : CC := (.cond (.t 27) c_impl_WordText_r12 .skip)
abbrev c_impl_WordText_k37 : CC := (.seq c_impl_WordText_r11 c_impl_WordText_k39)
abbrev c_impl_WordText_k35 : CC := (.seq c_impl_WordText_r10 c_impl_WordText_k37)
abbrev c_impl_WordText_k29 : CC := (.seq (.seq c_impl_WordText_r8 c_impl_WordText_k32) c_impl_WordText_k35)
abbrev c_impl_WordText_k27 : CC := (.seq c_impl_WordText_r7 c_impl_WordText_k29)
abbrev c_impl_WordText_r13 : CC := .reg [
    ⟨(some 35), none, .bin .add (.t 14) (.c (.int .i64 1))⟩,
    ⟨(some 14), none, .mv (.t 35)⟩]
abbrev c_impl_WordText_k23 : CC := (.seq (.block 1 (.seq c_impl_WordText_r6 c_impl_WordText_k27)) c_impl_WordText_r13)
abbrev c_impl_WordText_k19 : CC := (.seq (.cond (.t 15) .skip (.exit 0)) c_impl_WordText_k23)
abbrev c_impl_WordText_k17 : CC := (.seq c_impl_WordText_r5 c_impl_WordText_k19)
abbrev c_impl_WordText_k15 : CC := (.block 0 (.loop c_impl_WordText_k17))
abbrev c_impl_WordText_r14 : CC := .reg [
    ⟨(some 36), none, .mv (.t 4)⟩,
    ⟨(some 37), none, .bin .eql (.t 36) (.c (.string ⟨#[]⟩))⟩]
abbrev c_impl_WordText_r15 : CC := .reg [
    ⟨(some 2), none, .mv (.c (.string ⟨#[48]⟩))⟩,
    ⟨(some 3), none, .mv (.c (.bool true))⟩]
abbrev c_impl_WordText_k46 : CC := (.cond (.t 37) (.seq c_impl_WordText_r15 .ret) .skip)
abbrev c_impl_WordText_r16 : CC := .reg [
    ⟨(some 38), none, .mv (.t 4)⟩,
    ⟨(some 2), none, .mv (.t 38)⟩,
    ⟨(some 3), none, .mv (.c (.bool true))⟩]
abbrev c_impl_WordText_k51 : CC := (.seq c_impl_WordText_r16 .ret)
abbrev c_impl_WordText_k43 : CC := (.seq (.seq c_impl_WordText_r14 c_impl_WordText_k46) c_impl_WordText_k51)
abbrev c_impl_WordText_k12 : CC := (.seq (.seq c_impl_WordText_r4 c_impl_WordText_k15) c_impl_WordText_k43)
abbrev c_impl_WordText_k10 : CC := (.seq c_impl_WordText_r3 c_impl_WordText_k12)
abbrev c_impl_WordText_k2 : CC := (.seq (.seq c_impl_WordText_r1 c_impl_WordText_k5) c_impl_WordText_k10)
abbrev c_impl_WordText_k0 : CC := (.seq c_impl_WordText_r0 c_impl_WordText_k2)
abbrev c_impl_WordText : CF := ⟨39, [.tmp 2, .tmp 3], c_impl_WordText_k0⟩
abbrev F_impl_WordText : Nat := 14
theorem ok_impl_WordText : compileF Tryd.prog 14 = some c_impl_WordText := by kernel_rfl
def fc_n_impl_WordText (w : List (Bool × List T_rI)) (r : ByteArray × Bool) : FC := ⟨[.v (.ag [.sl false 2 (e_BLrIz false w)])], [.tmp 2, .tmp 3], .tp [.val (.string r.1), .val (.bool r.2)], [.v (.ag [.sl false 2 (e_BLrIz false w)])]⟩
def T_n_impl_WordText_35 (out_k35_1 : ByteArray) (letter_k35_0 : ByteArray) (w : List (Bool × List T_rI)) (x_k35_2 : Int) (v16_16 : Bool × List T_rI) : St := ([(4, .pu (.val (.string out_k35_1))), (6, .ob 6 0), (7, .pu (.val (.string letter_k35_0))), (12, .pu (.sl false 2 (e_BLrIz false w))), (13, .pu (.val (.int .i64 (w.length : Int)))), (14, .pu (.val (.int .i64 x_k35_2)))], [(6, .box [.pu (.val (.bool v16_16.1)), .pu (.sl false 2 (e_rI false v16_16.2))])])
def T_n_impl_WordText_16 (out_k16_0 : ByteArray) (w : List (Bool × List T_rI)) (x_k16_1 : Int) : St := ([(4, .pu (.val (.string out_k16_0))), (12, .pu (.sl false 2 (e_BLrIz false w))), (13, .pu (.val (.int .i64 (w.length : Int)))), (14, .pu (.val (.int .i64 x_k16_1)))], [])
def n_impl_WordText_j35  (k16 : ByteArray → (List (Bool × List T_rI)) → Int → Option (ByteArray × Bool)) (out_k35_1 : ByteArray) (letter_k35_0 : ByteArray) (w : List (Bool × List T_rI)) (x_k35_2 : Int) (v16_16 : Bool × List T_rI) : Option (ByteArray × Bool) :=
  ((cats out_k35_1 letter_k35_0).bind fun (v22_35 : ByteArray) =>
  ((n_impl_finite 1).bind fun (v25_35 : List T_rI) =>
  ((n_impl_cmp v16_16.2 v25_35).bind fun (v26_35 : Int) =>
  (bif (decide (v26_35 = 0)) then
    k16 (out_k35_1 ++ letter_k35_0) w (wr (x_k35_2 + 1))
  else
    ((n_impl_ordinalText v16_16.2 (⟨#[119]⟩ : ByteArray)).bind fun (v31_35 : ByteArray) =>
    ((cats (⟨#[40]⟩ : ByteArray) v31_35).bind fun (v32_35 : ByteArray) =>
    ((cats ((⟨#[40]⟩ : ByteArray) ++ v31_35) (⟨#[41]⟩ : ByteArray)).bind fun (v33_35 : ByteArray) =>
    ((cats (out_k35_1 ++ letter_k35_0) (((⟨#[40]⟩ : ByteArray) ++ v31_35) ++ (⟨#[41]⟩ : ByteArray))).bind fun (v34_35 : ByteArray) =>
    k16 ((out_k35_1 ++ letter_k35_0) ++ (((⟨#[40]⟩ : ByteArray) ++ v31_35) ++ (⟨#[41]⟩ : ByteArray))) w (wr (x_k35_2 + 1))))))))))
theorem n_impl_WordText_j35_ok {I : Nat → St → Prop}   {k16 : ByteArray → (List (Bool × List T_rI)) → Int → Option (ByteArray × Bool)} {w_0 : List (Bool × List T_rI)} {r : ByteArray × Bool} (hI16 : ∀ (out_k16_0 : ByteArray) (w : List (Bool × List T_rI)) (x_k16_1 : Int), k16 out_k16_0 w x_k16_1 = some r → I 1 (T_n_impl_WordText_16 out_k16_0 w x_k16_1)) {out_k35_1 : ByteArray} {letter_k35_0 : ByteArray} {w : List (Bool × List T_rI)} {x_k35_2 : Int} {v16_16 : Bool × List T_rI} (h : n_impl_WordText_j35  k16 out_k35_1 letter_k35_0 w x_k35_2 v16_16 = some r) : wpx Tryd.prog (FC.pn (fc_n_impl_WordText w_0 r)) c_impl_WordText_k35 (kq Tryd.prog (fc_n_impl_WordText w_0 r) I [.blk 1, .sq c_impl_WordText_r13, .lp 1, .blk 0, .sq c_impl_WordText_k43]) (T_n_impl_WordText_35 out_k35_1 letter_k35_0 w x_k35_2 v16_16).1 (T_n_impl_WordText_35 out_k35_1 letter_k35_0 w x_k35_2 v16_16).2 := by
  unfold n_impl_WordText_j35 at h
  refine bind_elim h (fun v22_35 c1 h => ?_)
  refine bind_elim h (fun v25_35 c2 h => ?_)
  refine bind_elim h (fun v26_35 c3 h => ?_)
  refine bif_elim h (fun c4 h => ?_) (fun c4 h => ?_)
  · exact wayB 200 [.cat (cat_ok c1), .call (n_impl_finite_ok c2), .pub (pub_ok k_rI false v25_35), .call (n_impl_cmp_ok c3), .br (congrArg not c4), .stop [] (T_n_impl_WordText_16 (out_k35_1 ++ letter_k35_0) w (wr (x_k35_2 + 1)))] 1 (hI16 _ _ _ h) (by kernel_rfl)
  · refine bind_elim h (fun v31_35 c5 h => ?_)
    refine bind_elim h (fun v32_35 c6 h => ?_)
    refine bind_elim h (fun v33_35 c7 h => ?_)
    refine bind_elim h (fun v34_35 c8 h => ?_)
    exact wayB 200 [.cat (cat_ok c1), .call (n_impl_finite_ok c2), .pub (pub_ok k_rI false v25_35), .call (n_impl_cmp_ok c3), .br (congrArg not c4), .call (n_impl_ordinalText_ok c5), .cat (cat_ok c6), .cat (cat_ok c7), .cat (cat_ok c8), .stop [] (T_n_impl_WordText_16 ((out_k35_1 ++ letter_k35_0) ++ (((⟨#[40]⟩ : ByteArray) ++ v31_35) ++ (⟨#[41]⟩ : ByteArray))) w (wr (x_k35_2 + 1)))] 1 (hI16 _ _ _ h) (by kernel_rfl)
def n_impl_WordText_b16   (k16 : ByteArray → (List (Bool × List T_rI)) → Int → Option (ByteArray × Bool)) (out_k16_0 : ByteArray) (w : List (Bool × List T_rI)) (x_k16_1 : Int) : Option (ByteArray × Bool) :=
  (bif (decide (x_k16_1 < (w.length : Int))) then
    ((idx w x_k16_1).bind fun (v16_16 : Bool × List T_rI) =>
    (bif v16_16.1 then
      n_impl_WordText_j35 k16 out_k16_0 (⟨#[43]⟩ : ByteArray) w x_k16_1 v16_16
    else
      n_impl_WordText_j35 k16 out_k16_0 (⟨#[45]⟩ : ByteArray) w x_k16_1 v16_16))
  else
    (bif (decide (out_k16_0 = (⟨#[]⟩ : ByteArray))) then
      some ((⟨#[48]⟩ : ByteArray), true)
    else
      some (out_k16_0, true)))
def n_impl_WordText_l16   : Nat → ByteArray → (List (Bool × List T_rI)) → Int → Option (ByteArray × Bool)
  | 0, _, _, _ => none
  | n + 1, out_k16_0, w, x_k16_1 => n_impl_WordText_b16   (n_impl_WordText_l16   n) out_k16_0 w x_k16_1
theorem n_impl_WordText_b16_ok {I : Nat → St → Prop}    {w_0 : List (Bool × List T_rI)} {r : ByteArray × Bool}  {k16 : ByteArray → (List (Bool × List T_rI)) → Int → Option (ByteArray × Bool)} (hI16 : ∀ (out_k16_0 : ByteArray) (w : List (Bool × List T_rI)) (x_k16_1 : Int), k16 out_k16_0 w x_k16_1 = some r → I 1 (T_n_impl_WordText_16 out_k16_0 w x_k16_1)) {out_k16_0 : ByteArray} {w : List (Bool × List T_rI)} {x_k16_1 : Int} (h : n_impl_WordText_b16   k16 out_k16_0 w x_k16_1 = some r) : wpx Tryd.prog (FC.pn (fc_n_impl_WordText w_0 r)) c_impl_WordText_k17 (kq Tryd.prog (fc_n_impl_WordText w_0 r) I [.lp 1, .blk 0, .sq c_impl_WordText_k43]) (T_n_impl_WordText_16 out_k16_0 w x_k16_1).1 (T_n_impl_WordText_16 out_k16_0 w x_k16_1).2 := by
  unfold n_impl_WordText_b16 at h
  refine bif_elim h (fun c1 h => ?_) (fun c1 h => ?_)
  · refine bind_elim h (fun v16_16 c2 h => ?_)
    refine bif_elim h (fun c3 h => ?_) (fun c3 h => ?_)
    · exact way 200 [.br c1, .row (row_ok k_BLrIz (o := false) c2), .br c3, .pass 1, .cut [] (T_n_impl_WordText_35 out_k16_0 (⟨#[43]⟩ : ByteArray) w x_k16_1 v16_16)] (n_impl_WordText_j35_ok hI16 h) (by kernel_rfl)
    · exact way 200 [.br c1, .row (row_ok k_BLrIz (o := false) c2), .br c3, .pass 1, .cut [] (T_n_impl_WordText_35 out_k16_0 (⟨#[45]⟩ : ByteArray) w x_k16_1 v16_16)] (n_impl_WordText_j35_ok hI16 h) (by kernel_rfl)
  · refine bif_elim h (fun c4 h => ?_) (fun c4 h => ?_)
    · cases h
      exact wayR 200 [.br c1, .br c4, .fin0] (by kernel_rfl)
    · cases h
      exact wayR 200 [.br c1, .br c4, .fin0] (by kernel_rfl)
theorem n_impl_WordText_l16_ok {I : Nat → St → Prop}    {w_0 : List (Bool × List T_rI)} {r : ByteArray × Bool}  : ∀ (n : Nat) (out_k16_0 : ByteArray) (w : List (Bool × List T_rI)) (x_k16_1 : Int), n_impl_WordText_l16   n out_k16_0 w x_k16_1 = some r → wpx Tryd.prog (FC.pn (fc_n_impl_WordText w_0 r)) (.loop c_impl_WordText_k17) (kq Tryd.prog (fc_n_impl_WordText w_0 r) I [.blk 0, .sq c_impl_WordText_k43]) (T_n_impl_WordText_16 out_k16_0 w x_k16_1).1 (T_n_impl_WordText_16 out_k16_0 w x_k16_1).2 := by
  intro n out_k16_0 w x_k16_1 h
  exact loopN (fc := (fc_n_impl_WordText w_0 r)) (I := I) (j := 1) (V := ByteArray × (List (Bool × List T_rI)) × Int) (fun n v => n_impl_WordText_l16   n v.1 v.2.1 v.2.2) (fun v => T_n_impl_WordText_16 v.1 v.2.1 v.2.2) r (fun v h => by simp [n_impl_WordText_l16] at h) (fun n v h I' hne hI' => n_impl_WordText_b16_ok   (k16 := n_impl_WordText_l16   n) (fun out_k16_0 w x_k16_1 h => hI' (out_k16_0, w, x_k16_1) h) h) (fun I' hne => kq_congr fun i hi => hne i (notIn_ne (by rfl) i hi)) n (out_k16_0, w, x_k16_1) h
def n_impl_WordText  (w : List (Bool × List T_rI)) : Option (ByteArray × Bool) :=
  ((n_impl_IsWord w).bind fun (v9_0 : Bool) =>
  (bif v9_0 then
    n_impl_WordText_l16 fuel (⟨#[]⟩ : ByteArray) w 0
  else
    some ((⟨#[]⟩ : ByteArray), false)))
theorem n_impl_WordText_way {I : Nat → St → Prop}   {w : List (Bool × List T_rI)} {r : ByteArray × Bool} (h : n_impl_WordText  w = some r) : wpx Tryd.prog (FC.pn (fc_n_impl_WordText w r)) c_impl_WordText_k0 (kq Tryd.prog (fc_n_impl_WordText w r) I []) (([(0, .ag [.pu (.sl false 2 (e_BLrIz false w))])], []) : St).1 (([(0, .ag [.pu (.sl false 2 (e_BLrIz false w))])], []) : St).2 := by
  unfold n_impl_WordText at h
  refine bind_elim h (fun v9_0 c1 h => ?_)
  refine bif_elim h (fun c2 h => ?_) (fun c2 h => ?_)
  · exact way 200 [.call (n_impl_IsWord_ok c1), .br (congrArg not c2), .len (len_ok k_BLrIz false w), .stop [] (T_n_impl_WordText_16 (⟨#[]⟩ : ByteArray) w 0)] (n_impl_WordText_l16_ok _ _ _ _ h) (by kernel_rfl)
  · cases h
    exact wayR 200 [.call (n_impl_IsWord_ok c1), .br (congrArg not c2), .fin0] (by kernel_rfl)
theorem n_impl_WordText_ok   {w : List (Bool × List T_rI)} {r : ByteArray × Bool} (h : n_impl_WordText  w = some r) : Sound Tryd.prog F_impl_WordText [.v (.ag [.sl false 2 (e_BLrIz false w)])] (.tp [.val (.string r.1), .val (.bool r.2)]) [.v (.ag [.sl false 2 (e_BLrIz false w)])] :=
  soundX hmix ok_impl_WordText (fc := (fc_n_impl_WordText w r)) rfl (S₀ := []) rfl rfl (n_impl_WordText_way  h)

abbrev c_laws_eqOrdinal_r0 : CC := .reg [
    ⟨(some 2), none, .box (.t 0)⟩,
    ⟨(some 3), none, .box (.t 1)⟩,
    ⟨(some 4), none, .mv (.c (.bool false))⟩]
abbrev c_laws_eqOrdinal_r1 : CC := .reg [
    ⟨(some 5), none, .fadr 0 (.t 2)⟩,
    ⟨(some 6), none, .load 1 false (.t 5)⟩,
    ⟨(some 7), none, .fadr 0 (.t 3)⟩,
    ⟨(some 8), none, .load 1 false (.t 7)⟩,
    ⟨(some 9), none, .call true (.f 119) [(.t 6), (.t 8)]⟩,
    ⟨(some 10), none, .un .not (.t 9)⟩]
abbrev c_laws_eqOrdinal_r2 : CC := .reg [
    ⟨(some 4), none, .mv (.c (.bool false))⟩]
abbrev c_laws_eqOrdinal_k5 : CC := (.cond (.t 10) (.seq c_laws_eqOrdinal_r2 .ret) .skip)
abbrev c_laws_eqOrdinal_r3 : CC := .reg [
    ⟨(some 4), none, .mv (.c (.bool true))⟩]
abbrev c_laws_eqOrdinal_k10 : CC := (.seq c_laws_eqOrdinal_r3 .ret)
abbrev c_laws_eqOrdinal_k2 : CC := (.seq (.seq c_laws_eqOrdinal_r1 c_laws_eqOrdinal_k5) c_laws_eqOrdinal_k10)
abbrev c_laws_eqOrdinal_k0 : CC := (.seq c_laws_eqOrdinal_r0 c_laws_eqOrdinal_k2)
abbrev c_laws_eqOrdinal : CF := ⟨11, [.tmp 4], c_laws_eqOrdinal_k0⟩
abbrev F_laws_eqOrdinal : Nat := 92
theorem ok_laws_eqOrdinal : compileF Tryd.prog 92 = some c_laws_eqOrdinal := by kernel_rfl
abbrev c_laws_eqOrdinalTermS_r0 : CC := .reg [
    ⟨(some 4), none, .mv (.c (.bool false))⟩]
abbrev c_laws_eqOrdinalTermS_r1 : CC := .reg [
    ⟨(some 6), none, .mv (.t 0)⟩,
    ⟨(some 7), none, .len false (.t 6)⟩,
    ⟨(some 8), none, .mv (.t 1)⟩,
    ⟨(some 9), none, .len false (.t 8)⟩,
    ⟨(some 10), none, .bin .neq (.t 7) (.t 9)⟩]
abbrev c_laws_eqOrdinalTermS_r2 : CC := .reg [
    ⟨(some 4), none, .mv (.c (.bool false))⟩]
abbrev c_laws_eqOrdinalTermS_k5 : CC := (.cond (.t 10) (.seq c_laws_eqOrdinalTermS_r2 .ret) .skip)
abbrev c_laws_eqOrdinalTermS_r3 : CC := .reg [
    ⟨(some 5), none, .mv (.c (.int .i64 0))⟩]
abbrev c_laws_eqOrdinalTermS_r4 : CC := .reg [
    ⟨(some 11), none, .mv (.t 5)⟩,
    ⟨(some 12), none, .mv (.t 0)⟩,
    ⟨(some 13), none, .len false (.t 12)⟩,
    ⟨(some 14), none, .bin .lss (.t 11) (.t 13)⟩]
abbrev c_laws_eqOrdinalTermS_k18 : CC := (.cond (.t 14) .skip (.exit 0))
abbrev c_laws_eqOrdinalTermS_r6 : CC := .drw [
    ⟨(some 17), none, .mv (.t 0)⟩,
    ⟨(some 18), none, .mv (.t 5)⟩,
    ⟨(some 19), none, .iadr 2 (.t 17) (.t 18)⟩,
    ⟨(some 20), none, .load 2 true (.t 19)⟩,
    ⟨(some 21), none, .mv (.t 1)⟩,
    ⟨(some 22), none, .mv (.t 5)⟩,
    ⟨(some 23), none, .iadr 2 (.t 21) (.t 22)⟩,
    ⟨(some 24), none, .load 2 true (.t 23)⟩,
    ⟨(some 25), none, .call true (.f 139) [(.t 20), (.t 24)]⟩,
    ⟨(some 26), none, .un .not (.t 25)⟩] [(0, 1), (0, 4), (1, 4), (2, 4), (3, 4), (0, 5), (1, 5), (2, 5), (3, 5), (4, 5), (0, 6), (1, 6), (2, 6), (3, 6), (0, 7), (1, 7), (2, 7), (3, 7)]
abbrev c_laws_eqOrdinalTermS_r7 : CC := .reg [
    ⟨(some 4), none, .mv (.c (.bool false))⟩]
abbrev c_laws_eqOrdinalTermS_k25 : CC := (.cond (.t 26) (.seq c_laws_eqOrdinalTermS_r7 .ret) .skip)
abbrev c_laws_eqOrdinalTermS_r5 : CC := .reg [
    ⟨(some 15), none, .mv (.t 5)⟩,
    ⟨(some 16), none, .bin .add (.t 15) (.c (.int .i64 1))⟩,
    ⟨(some 5), none, .mv (.t 16)⟩]
abbrev c_laws_eqOrdinalTermS_k21 : CC := (.seq (.block 1 (.seq c_laws_eqOrdinalTermS_r6 c_laws_eqOrdinalTermS_k25)) c_laws_eqOrdinalTermS_r5)
abbrev c_laws_eqOrdinalTermS_k15 : CC := (.seq (.seq c_laws_eqOrdinalTermS_r4 c_laws_eqOrdinalTermS_k18) c_laws_eqOrdinalTermS_k21)
abbrev c_laws_eqOrdinalTermS_k13 : CC := (.block 0 (.loop c_laws_eqOrdinalTermS_k15))
abbrev c_laws_eqOrdinalTermS_r8 : CC := .reg [
    ⟨(some 4), none, .mv (.c (.bool true))⟩]
abbrev c_laws_eqOrdinalTermS_k31 : CC := (.seq c_laws_eqOrdinalTermS_r8 .ret)
abbrev c_laws_eqOrdinalTermS_k10 : CC := (.seq (.seq c_laws_eqOrdinalTermS_r3 c_laws_eqOrdinalTermS_k13) c_laws_eqOrdinalTermS_k31)
abbrev c_laws_eqOrdinalTermS_k2 : CC := (.seq (.seq c_laws_eqOrdinalTermS_r1 c_laws_eqOrdinalTermS_k5) c_laws_eqOrdinalTermS_k10)
abbrev c_laws_eqOrdinalTermS_k0 : CC := (.seq c_laws_eqOrdinalTermS_r0 c_laws_eqOrdinalTermS_k2)
abbrev c_laws_eqOrdinalTermS : CF := ⟨27, [.tmp 4], c_laws_eqOrdinalTermS_k0⟩
abbrev F_laws_eqOrdinalTermS : Nat := 119
theorem ok_laws_eqOrdinalTermS : compileF Tryd.prog 119 = some c_laws_eqOrdinalTermS := by kernel_rfl
abbrev c_laws_eqOrdinalTerm_r0 : CC := .reg [
    ⟨(some 2), none, .box (.t 0)⟩,
    ⟨(some 3), none, .box (.t 1)⟩,
    ⟨(some 4), none, .mv (.c (.bool false))⟩]
abbrev c_laws_eqOrdinalTerm_r1 : CC := .reg [
    ⟨(some 5), none, .fadr 0 (.t 2)⟩,
    ⟨(some 6), none, .load 1 true (.t 5)⟩,
    ⟨(some 7), none, .fadr 0 (.t 3)⟩,
    ⟨(some 8), none, .load 1 true (.t 7)⟩,
    ⟨(some 9), none, .call true (.f 92) [(.t 6), (.t 8)]⟩,
    ⟨(some 10), none, .un .not (.t 9)⟩]
abbrev c_laws_eqOrdinalTerm_r2 : CC := .reg [
    ⟨(some 4), none, .mv (.c (.bool false))⟩]
abbrev c_laws_eqOrdinalTerm_k5 : CC := (.cond (.t 10) (.seq c_laws_eqOrdinalTerm_r2 .ret) .skip)
abbrev c_laws_eqOrdinalTerm_r3 : CC := .reg [
    ⟨(some 11), none, .fadr 1 (.t 2)⟩,
    ⟨(some 12), none, .load 1 false (.t 11)⟩,
    ⟨(some 13), none, .fadr 1 (.t 3)⟩,
    ⟨(some 14), none, .load 1 false (.t 13)⟩,
    ⟨(some 15), none, .bin .neq (.t 12) (.t 14)⟩]
abbrev c_laws_eqOrdinalTerm_r4 : CC := .reg [
    ⟨(some 4), none, .mv (.c (.bool false))⟩]
abbrev c_laws_eqOrdinalTerm_k13 : CC := (.cond (.t 15) (.seq c_laws_eqOrdinalTerm_r4 .ret) .skip)
abbrev c_laws_eqOrdinalTerm_r5 : CC := .reg [
    ⟨(some 4), none, .mv (.c (.bool true))⟩]
abbrev c_laws_eqOrdinalTerm_k18 : CC := (.seq c_laws_eqOrdinalTerm_r5 .ret)
abbrev c_laws_eqOrdinalTerm_k10 : CC := (.seq (.seq c_laws_eqOrdinalTerm_r3 c_laws_eqOrdinalTerm_k13) c_laws_eqOrdinalTerm_k18)
abbrev c_laws_eqOrdinalTerm_k2 : CC := (.seq (.seq c_laws_eqOrdinalTerm_r1 c_laws_eqOrdinalTerm_k5) c_laws_eqOrdinalTerm_k10)
abbrev c_laws_eqOrdinalTerm_k0 : CC := (.seq c_laws_eqOrdinalTerm_r0 c_laws_eqOrdinalTerm_k2)
abbrev c_laws_eqOrdinalTerm : CF := ⟨16, [.tmp 4], c_laws_eqOrdinalTerm_k0⟩
abbrev F_laws_eqOrdinalTerm : Nat := 139
theorem ok_laws_eqOrdinalTerm : compileF Tryd.prog 139 = some c_laws_eqOrdinalTerm := by kernel_rfl
def fc_n_laws_eqOrdinal (a : List T_rI) (b : List T_rI) (r : Bool) : FC := ⟨[.v (.ag [.sl false 2 (e_rI false a)]), .v (.ag [.sl false 2 (e_rI false b)])], [.tmp 4], .val (.bool r), [.v (.ag [.sl false 2 (e_rI false a)]), .v (.ag [.sl false 2 (e_rI false b)])]⟩
def n_laws_eqOrdinal_B (rf_n_laws_eqOrdinal : List T_rI → List T_rI → Option Bool) (rf_n_laws_eqOrdinalTermS : List T_rI → List T_rI → Option Bool) (rf_n_laws_eqOrdinalTerm : List T_rI → Int → List T_rI → Int → Option Bool) (a : List T_rI) (b : List T_rI) : Option Bool :=
  ((rf_n_laws_eqOrdinalTermS a b).bind fun (v9_0 : Bool) =>
  (bif v9_0 then
    some true
  else
    some false))
theorem n_laws_eqOrdinal_B_way {I : Nat → St → Prop} {rf_n_laws_eqOrdinal : List T_rI → List T_rI → Option Bool} {rf_n_laws_eqOrdinalTermS : List T_rI → List T_rI → Option Bool} {rf_n_laws_eqOrdinalTerm : List T_rI → Int → List T_rI → Int → Option Bool} (hrf_n_laws_eqOrdinal : ∀ (a : List T_rI) (b : List T_rI) (r : Bool), rf_n_laws_eqOrdinal a b = some r → Sound Tryd.prog F_laws_eqOrdinal [.v (.ag [.sl false 2 (e_rI false a)]), .v (.ag [.sl false 2 (e_rI false b)])] (.val (.bool r)) [.v (.ag [.sl false 2 (e_rI false a)]), .v (.ag [.sl false 2 (e_rI false b)])]) (hrf_n_laws_eqOrdinalTermS : ∀ (a : List T_rI) (b : List T_rI) (r : Bool), rf_n_laws_eqOrdinalTermS a b = some r → Sound Tryd.prog F_laws_eqOrdinalTermS [.v (.sl false 2 (e_rI false a)), .v (.sl false 2 (e_rI false b))] (.val (.bool r)) [.v (.sl false 2 (e_rI false a)), .v (.sl false 2 (e_rI false b))]) (hrf_n_laws_eqOrdinalTerm : ∀ (a : List T_rI) (a2 : Int) (b : List T_rI) (b2 : Int) (r : Bool), rf_n_laws_eqOrdinalTerm a a2 b b2 = some r → Sound Tryd.prog F_laws_eqOrdinalTerm [.v (.ag [.sl false 2 (e_rI false a), .val (.int .i64 a2)]), .v (.ag [.sl false 2 (e_rI false b), .val (.int .i64 b2)])] (.val (.bool r)) [.v (.ag [.sl false 2 (e_rI false a), .val (.int .i64 a2)]), .v (.ag [.sl false 2 (e_rI false b), .val (.int .i64 b2)])]) {a : List T_rI} {b : List T_rI} {r : Bool} (h : n_laws_eqOrdinal_B rf_n_laws_eqOrdinal rf_n_laws_eqOrdinalTermS rf_n_laws_eqOrdinalTerm a b = some r) : wpx Tryd.prog (FC.pn (fc_n_laws_eqOrdinal a b r)) c_laws_eqOrdinal_k0 (kq Tryd.prog (fc_n_laws_eqOrdinal a b r) I []) (([(0, .ag [.pu (.sl false 2 (e_rI false a))]), (1, .ag [.pu (.sl false 2 (e_rI false b))])], []) : St).1 (([(0, .ag [.pu (.sl false 2 (e_rI false a))]), (1, .ag [.pu (.sl false 2 (e_rI false b))])], []) : St).2 := by
  unfold n_laws_eqOrdinal_B at h
  refine bind_elim h (fun v9_0 c1 h => ?_)
  refine bif_elim h (fun c2 h => ?_) (fun c2 h => ?_)
  · cases h
    exact wayR 200 [.call (hrf_n_laws_eqOrdinalTermS _ _ _ c1), .br (congrArg not c2), .fin0] (by kernel_rfl)
  · cases h
    exact wayR 200 [.call (hrf_n_laws_eqOrdinalTermS _ _ _ c1), .br (congrArg not c2), .fin0] (by kernel_rfl)
theorem n_laws_eqOrdinal_B_ok {rf_n_laws_eqOrdinal : List T_rI → List T_rI → Option Bool} {rf_n_laws_eqOrdinalTermS : List T_rI → List T_rI → Option Bool} {rf_n_laws_eqOrdinalTerm : List T_rI → Int → List T_rI → Int → Option Bool} (hrf_n_laws_eqOrdinal : ∀ (a : List T_rI) (b : List T_rI) (r : Bool), rf_n_laws_eqOrdinal a b = some r → Sound Tryd.prog F_laws_eqOrdinal [.v (.ag [.sl false 2 (e_rI false a)]), .v (.ag [.sl false 2 (e_rI false b)])] (.val (.bool r)) [.v (.ag [.sl false 2 (e_rI false a)]), .v (.ag [.sl false 2 (e_rI false b)])]) (hrf_n_laws_eqOrdinalTermS : ∀ (a : List T_rI) (b : List T_rI) (r : Bool), rf_n_laws_eqOrdinalTermS a b = some r → Sound Tryd.prog F_laws_eqOrdinalTermS [.v (.sl false 2 (e_rI false a)), .v (.sl false 2 (e_rI false b))] (.val (.bool r)) [.v (.sl false 2 (e_rI false a)), .v (.sl false 2 (e_rI false b))]) (hrf_n_laws_eqOrdinalTerm : ∀ (a : List T_rI) (a2 : Int) (b : List T_rI) (b2 : Int) (r : Bool), rf_n_laws_eqOrdinalTerm a a2 b b2 = some r → Sound Tryd.prog F_laws_eqOrdinalTerm [.v (.ag [.sl false 2 (e_rI false a), .val (.int .i64 a2)]), .v (.ag [.sl false 2 (e_rI false b), .val (.int .i64 b2)])] (.val (.bool r)) [.v (.ag [.sl false 2 (e_rI false a), .val (.int .i64 a2)]), .v (.ag [.sl false 2 (e_rI false b), .val (.int .i64 b2)])]) {a : List T_rI} {b : List T_rI} {r : Bool} (h : n_laws_eqOrdinal_B rf_n_laws_eqOrdinal rf_n_laws_eqOrdinalTermS rf_n_laws_eqOrdinalTerm a b = some r) : Sound Tryd.prog F_laws_eqOrdinal [.v (.ag [.sl false 2 (e_rI false a)]), .v (.ag [.sl false 2 (e_rI false b)])] (.val (.bool r)) [.v (.ag [.sl false 2 (e_rI false a)]), .v (.ag [.sl false 2 (e_rI false b)])] :=
  soundX hmix ok_laws_eqOrdinal (fc := (fc_n_laws_eqOrdinal a b r)) rfl (S₀ := []) rfl rfl (n_laws_eqOrdinal_B_way hrf_n_laws_eqOrdinal hrf_n_laws_eqOrdinalTermS hrf_n_laws_eqOrdinalTerm h)
def fc_n_laws_eqOrdinalTermS (a : List T_rI) (b : List T_rI) (r : Bool) : FC := ⟨[.v (.sl false 2 (e_rI false a)), .v (.sl false 2 (e_rI false b))], [.tmp 4], .val (.bool r), [.v (.sl false 2 (e_rI false a)), .v (.sl false 2 (e_rI false b))]⟩
def T_n_laws_eqOrdinalTermS_14 (a : List T_rI) (b : List T_rI) (i_k14_0 : Int) : St := ([(0, .pu (.sl false 2 (e_rI false a))), (1, .pu (.sl false 2 (e_rI false b))), (5, .pu (.val (.int .i64 i_k14_0)))], [])
def n_laws_eqOrdinalTermS_b14 (rf_n_laws_eqOrdinal : List T_rI → List T_rI → Option Bool) (rf_n_laws_eqOrdinalTermS : List T_rI → List T_rI → Option Bool) (rf_n_laws_eqOrdinalTerm : List T_rI → Int → List T_rI → Int → Option Bool)  (k14 : List T_rI → List T_rI → Int → Option Bool) (a : List T_rI) (b : List T_rI) (i_k14_0 : Int) : Option Bool :=
  (bif (decide (i_k14_0 < (a.length : Int))) then
    ((idx a i_k14_0).bind fun (v19_14 : T_rI) =>
    ((idx b i_k14_0).bind fun (v23_14 : T_rI) =>
    ((rf_n_laws_eqOrdinalTerm v19_14.c0 v19_14.c1 v23_14.c0 v23_14.c1).bind fun (v25_14 : Bool) =>
    (bif v25_14 then
      k14 a b (wr (i_k14_0 + 1))
    else
      some false))))
  else
    some true)
def n_laws_eqOrdinalTermS_l14 (rf_n_laws_eqOrdinal : List T_rI → List T_rI → Option Bool) (rf_n_laws_eqOrdinalTermS : List T_rI → List T_rI → Option Bool) (rf_n_laws_eqOrdinalTerm : List T_rI → Int → List T_rI → Int → Option Bool)  : Nat → List T_rI → List T_rI → Int → Option Bool
  | 0, _, _, _ => none
  | n + 1, a, b, i_k14_0 => n_laws_eqOrdinalTermS_b14 rf_n_laws_eqOrdinal rf_n_laws_eqOrdinalTermS rf_n_laws_eqOrdinalTerm  (n_laws_eqOrdinalTermS_l14 rf_n_laws_eqOrdinal rf_n_laws_eqOrdinalTermS rf_n_laws_eqOrdinalTerm  n) a b i_k14_0
theorem n_laws_eqOrdinalTermS_b14_ok {I : Nat → St → Prop} {rf_n_laws_eqOrdinal : List T_rI → List T_rI → Option Bool} {rf_n_laws_eqOrdinalTermS : List T_rI → List T_rI → Option Bool} {rf_n_laws_eqOrdinalTerm : List T_rI → Int → List T_rI → Int → Option Bool} (hrf_n_laws_eqOrdinal : ∀ (a : List T_rI) (b : List T_rI) (r : Bool), rf_n_laws_eqOrdinal a b = some r → Sound Tryd.prog F_laws_eqOrdinal [.v (.ag [.sl false 2 (e_rI false a)]), .v (.ag [.sl false 2 (e_rI false b)])] (.val (.bool r)) [.v (.ag [.sl false 2 (e_rI false a)]), .v (.ag [.sl false 2 (e_rI false b)])]) (hrf_n_laws_eqOrdinalTermS : ∀ (a : List T_rI) (b : List T_rI) (r : Bool), rf_n_laws_eqOrdinalTermS a b = some r → Sound Tryd.prog F_laws_eqOrdinalTermS [.v (.sl false 2 (e_rI false a)), .v (.sl false 2 (e_rI false b))] (.val (.bool r)) [.v (.sl false 2 (e_rI false a)), .v (.sl false 2 (e_rI false b))]) (hrf_n_laws_eqOrdinalTerm : ∀ (a : List T_rI) (a2 : Int) (b : List T_rI) (b2 : Int) (r : Bool), rf_n_laws_eqOrdinalTerm a a2 b b2 = some r → Sound Tryd.prog F_laws_eqOrdinalTerm [.v (.ag [.sl false 2 (e_rI false a), .val (.int .i64 a2)]), .v (.ag [.sl false 2 (e_rI false b), .val (.int .i64 b2)])] (.val (.bool r)) [.v (.ag [.sl false 2 (e_rI false a), .val (.int .i64 a2)]), .v (.ag [.sl false 2 (e_rI false b), .val (.int .i64 b2)])])  {a_0 : List T_rI} {b_0 : List T_rI} {r : Bool}  {k14 : List T_rI → List T_rI → Int → Option Bool} (hI14 : ∀ (a : List T_rI) (b : List T_rI) (i_k14_0 : Int), k14 a b i_k14_0 = some r → I 1 (T_n_laws_eqOrdinalTermS_14 a b i_k14_0)) {a : List T_rI} {b : List T_rI} {i_k14_0 : Int} (h : n_laws_eqOrdinalTermS_b14 rf_n_laws_eqOrdinal rf_n_laws_eqOrdinalTermS rf_n_laws_eqOrdinalTerm  k14 a b i_k14_0 = some r) : wpx Tryd.prog (FC.pn (fc_n_laws_eqOrdinalTermS a_0 b_0 r)) c_laws_eqOrdinalTermS_k15 (kq Tryd.prog (fc_n_laws_eqOrdinalTermS a_0 b_0 r) I [.lp 1, .blk 0, .sq c_laws_eqOrdinalTermS_k31]) (T_n_laws_eqOrdinalTermS_14 a b i_k14_0).1 (T_n_laws_eqOrdinalTermS_14 a b i_k14_0).2 := by
  unfold n_laws_eqOrdinalTermS_b14 at h
  refine bif_elim h (fun c1 h => ?_) (fun c1 h => ?_)
  · refine bind_elim h (fun v19_14 c2 h => ?_)
    refine bind_elim h (fun v23_14 c3 h => ?_)
    refine bind_elim h (fun v25_14 c4 h => ?_)
    refine bif_elim h (fun c5 h => ?_) (fun c5 h => ?_)
    · exact wayB 200 [.len (len_ok k_rI false a), .br c1, .row (row_ok k_rI (o := false) c2), .row (row_ok k_rI (o := false) c3), .call (hrf_n_laws_eqOrdinalTerm _ _ _ _ _ c4), .br (congrArg not c5), .stop [] (T_n_laws_eqOrdinalTermS_14 a b (wr (i_k14_0 + 1)))] 1 (hI14 _ _ _ h) (by kernel_rfl)
    · cases h
      exact wayR 200 [.len (len_ok k_rI false a), .br c1, .row (row_ok k_rI (o := false) c2), .row (row_ok k_rI (o := false) c3), .call (hrf_n_laws_eqOrdinalTerm _ _ _ _ _ c4), .br (congrArg not c5), .fin0] (by kernel_rfl)
  · cases h
    exact wayR 200 [.len (len_ok k_rI false a), .br c1, .fin0] (by kernel_rfl)
theorem n_laws_eqOrdinalTermS_l14_ok {I : Nat → St → Prop} {rf_n_laws_eqOrdinal : List T_rI → List T_rI → Option Bool} {rf_n_laws_eqOrdinalTermS : List T_rI → List T_rI → Option Bool} {rf_n_laws_eqOrdinalTerm : List T_rI → Int → List T_rI → Int → Option Bool} (hrf_n_laws_eqOrdinal : ∀ (a : List T_rI) (b : List T_rI) (r : Bool), rf_n_laws_eqOrdinal a b = some r → Sound Tryd.prog F_laws_eqOrdinal [.v (.ag [.sl false 2 (e_rI false a)]), .v (.ag [.sl false 2 (e_rI false b)])] (.val (.bool r)) [.v (.ag [.sl false 2 (e_rI false a)]), .v (.ag [.sl false 2 (e_rI false b)])]) (hrf_n_laws_eqOrdinalTermS : ∀ (a : List T_rI) (b : List T_rI) (r : Bool), rf_n_laws_eqOrdinalTermS a b = some r → Sound Tryd.prog F_laws_eqOrdinalTermS [.v (.sl false 2 (e_rI false a)), .v (.sl false 2 (e_rI false b))] (.val (.bool r)) [.v (.sl false 2 (e_rI false a)), .v (.sl false 2 (e_rI false b))]) (hrf_n_laws_eqOrdinalTerm : ∀ (a : List T_rI) (a2 : Int) (b : List T_rI) (b2 : Int) (r : Bool), rf_n_laws_eqOrdinalTerm a a2 b b2 = some r → Sound Tryd.prog F_laws_eqOrdinalTerm [.v (.ag [.sl false 2 (e_rI false a), .val (.int .i64 a2)]), .v (.ag [.sl false 2 (e_rI false b), .val (.int .i64 b2)])] (.val (.bool r)) [.v (.ag [.sl false 2 (e_rI false a), .val (.int .i64 a2)]), .v (.ag [.sl false 2 (e_rI false b), .val (.int .i64 b2)])])  {a_0 : List T_rI} {b_0 : List T_rI} {r : Bool}  : ∀ (n : Nat) (a : List T_rI) (b : List T_rI) (i_k14_0 : Int), n_laws_eqOrdinalTermS_l14 rf_n_laws_eqOrdinal rf_n_laws_eqOrdinalTermS rf_n_laws_eqOrdinalTerm  n a b i_k14_0 = some r → wpx Tryd.prog (FC.pn (fc_n_laws_eqOrdinalTermS a_0 b_0 r)) (.loop c_laws_eqOrdinalTermS_k15) (kq Tryd.prog (fc_n_laws_eqOrdinalTermS a_0 b_0 r) I [.blk 0, .sq c_laws_eqOrdinalTermS_k31]) (T_n_laws_eqOrdinalTermS_14 a b i_k14_0).1 (T_n_laws_eqOrdinalTermS_14 a b i_k14_0).2 := by
  intro n a b i_k14_0 h
  exact loopN (fc := (fc_n_laws_eqOrdinalTermS a_0 b_0 r)) (I := I) (j := 1) (V := List T_rI × List T_rI × Int) (fun n v => n_laws_eqOrdinalTermS_l14 rf_n_laws_eqOrdinal rf_n_laws_eqOrdinalTermS rf_n_laws_eqOrdinalTerm  n v.1 v.2.1 v.2.2) (fun v => T_n_laws_eqOrdinalTermS_14 v.1 v.2.1 v.2.2) r (fun v h => by simp [n_laws_eqOrdinalTermS_l14] at h) (fun n v h I' hne hI' => n_laws_eqOrdinalTermS_b14_ok hrf_n_laws_eqOrdinal hrf_n_laws_eqOrdinalTermS hrf_n_laws_eqOrdinalTerm  (k14 := n_laws_eqOrdinalTermS_l14 rf_n_laws_eqOrdinal rf_n_laws_eqOrdinalTermS rf_n_laws_eqOrdinalTerm  n) (fun a b i_k14_0 h => hI' (a, b, i_k14_0) h) h) (fun I' hne => kq_congr fun i hi => hne i (notIn_ne (by rfl) i hi)) n (a, b, i_k14_0) h
def n_laws_eqOrdinalTermS_B (rf_n_laws_eqOrdinal : List T_rI → List T_rI → Option Bool) (rf_n_laws_eqOrdinalTermS : List T_rI → List T_rI → Option Bool) (rf_n_laws_eqOrdinalTerm : List T_rI → Int → List T_rI → Int → Option Bool) (a : List T_rI) (b : List T_rI) : Option Bool :=
  (bif (decide ((a.length : Int) = (b.length : Int))) then
    n_laws_eqOrdinalTermS_l14 rf_n_laws_eqOrdinal rf_n_laws_eqOrdinalTermS rf_n_laws_eqOrdinalTerm fuel a b 0
  else
    some false)
theorem n_laws_eqOrdinalTermS_B_way {I : Nat → St → Prop} {rf_n_laws_eqOrdinal : List T_rI → List T_rI → Option Bool} {rf_n_laws_eqOrdinalTermS : List T_rI → List T_rI → Option Bool} {rf_n_laws_eqOrdinalTerm : List T_rI → Int → List T_rI → Int → Option Bool} (hrf_n_laws_eqOrdinal : ∀ (a : List T_rI) (b : List T_rI) (r : Bool), rf_n_laws_eqOrdinal a b = some r → Sound Tryd.prog F_laws_eqOrdinal [.v (.ag [.sl false 2 (e_rI false a)]), .v (.ag [.sl false 2 (e_rI false b)])] (.val (.bool r)) [.v (.ag [.sl false 2 (e_rI false a)]), .v (.ag [.sl false 2 (e_rI false b)])]) (hrf_n_laws_eqOrdinalTermS : ∀ (a : List T_rI) (b : List T_rI) (r : Bool), rf_n_laws_eqOrdinalTermS a b = some r → Sound Tryd.prog F_laws_eqOrdinalTermS [.v (.sl false 2 (e_rI false a)), .v (.sl false 2 (e_rI false b))] (.val (.bool r)) [.v (.sl false 2 (e_rI false a)), .v (.sl false 2 (e_rI false b))]) (hrf_n_laws_eqOrdinalTerm : ∀ (a : List T_rI) (a2 : Int) (b : List T_rI) (b2 : Int) (r : Bool), rf_n_laws_eqOrdinalTerm a a2 b b2 = some r → Sound Tryd.prog F_laws_eqOrdinalTerm [.v (.ag [.sl false 2 (e_rI false a), .val (.int .i64 a2)]), .v (.ag [.sl false 2 (e_rI false b), .val (.int .i64 b2)])] (.val (.bool r)) [.v (.ag [.sl false 2 (e_rI false a), .val (.int .i64 a2)]), .v (.ag [.sl false 2 (e_rI false b), .val (.int .i64 b2)])]) {a : List T_rI} {b : List T_rI} {r : Bool} (h : n_laws_eqOrdinalTermS_B rf_n_laws_eqOrdinal rf_n_laws_eqOrdinalTermS rf_n_laws_eqOrdinalTerm a b = some r) : wpx Tryd.prog (FC.pn (fc_n_laws_eqOrdinalTermS a b r)) c_laws_eqOrdinalTermS_k0 (kq Tryd.prog (fc_n_laws_eqOrdinalTermS a b r) I []) (([(0, .pu (.sl false 2 (e_rI false a))), (1, .pu (.sl false 2 (e_rI false b)))], []) : St).1 (([(0, .pu (.sl false 2 (e_rI false a))), (1, .pu (.sl false 2 (e_rI false b)))], []) : St).2 := by
  unfold n_laws_eqOrdinalTermS_B at h
  refine bif_elim h (fun c1 h => ?_) (fun c1 h => ?_)
  · exact way 200 [.len (len_ok k_rI false a), .len (len_ok k_rI false b), .br (congrArg not c1), .stop [] (T_n_laws_eqOrdinalTermS_14 a b 0)] (n_laws_eqOrdinalTermS_l14_ok hrf_n_laws_eqOrdinal hrf_n_laws_eqOrdinalTermS hrf_n_laws_eqOrdinalTerm _ _ _ _ h) (by kernel_rfl)
  · cases h
    exact wayR 200 [.len (len_ok k_rI false a), .len (len_ok k_rI false b), .br (congrArg not c1), .fin0] (by kernel_rfl)
theorem n_laws_eqOrdinalTermS_B_ok {rf_n_laws_eqOrdinal : List T_rI → List T_rI → Option Bool} {rf_n_laws_eqOrdinalTermS : List T_rI → List T_rI → Option Bool} {rf_n_laws_eqOrdinalTerm : List T_rI → Int → List T_rI → Int → Option Bool} (hrf_n_laws_eqOrdinal : ∀ (a : List T_rI) (b : List T_rI) (r : Bool), rf_n_laws_eqOrdinal a b = some r → Sound Tryd.prog F_laws_eqOrdinal [.v (.ag [.sl false 2 (e_rI false a)]), .v (.ag [.sl false 2 (e_rI false b)])] (.val (.bool r)) [.v (.ag [.sl false 2 (e_rI false a)]), .v (.ag [.sl false 2 (e_rI false b)])]) (hrf_n_laws_eqOrdinalTermS : ∀ (a : List T_rI) (b : List T_rI) (r : Bool), rf_n_laws_eqOrdinalTermS a b = some r → Sound Tryd.prog F_laws_eqOrdinalTermS [.v (.sl false 2 (e_rI false a)), .v (.sl false 2 (e_rI false b))] (.val (.bool r)) [.v (.sl false 2 (e_rI false a)), .v (.sl false 2 (e_rI false b))]) (hrf_n_laws_eqOrdinalTerm : ∀ (a : List T_rI) (a2 : Int) (b : List T_rI) (b2 : Int) (r : Bool), rf_n_laws_eqOrdinalTerm a a2 b b2 = some r → Sound Tryd.prog F_laws_eqOrdinalTerm [.v (.ag [.sl false 2 (e_rI false a), .val (.int .i64 a2)]), .v (.ag [.sl false 2 (e_rI false b), .val (.int .i64 b2)])] (.val (.bool r)) [.v (.ag [.sl false 2 (e_rI false a), .val (.int .i64 a2)]), .v (.ag [.sl false 2 (e_rI false b), .val (.int .i64 b2)])]) {a : List T_rI} {b : List T_rI} {r : Bool} (h : n_laws_eqOrdinalTermS_B rf_n_laws_eqOrdinal rf_n_laws_eqOrdinalTermS rf_n_laws_eqOrdinalTerm a b = some r) : Sound Tryd.prog F_laws_eqOrdinalTermS [.v (.sl false 2 (e_rI false a)), .v (.sl false 2 (e_rI false b))] (.val (.bool r)) [.v (.sl false 2 (e_rI false a)), .v (.sl false 2 (e_rI false b))] :=
  soundX hmix ok_laws_eqOrdinalTermS (fc := (fc_n_laws_eqOrdinalTermS a b r)) rfl (S₀ := []) rfl rfl (n_laws_eqOrdinalTermS_B_way hrf_n_laws_eqOrdinal hrf_n_laws_eqOrdinalTermS hrf_n_laws_eqOrdinalTerm h)
def fc_n_laws_eqOrdinalTerm (a : List T_rI) (a2 : Int) (b : List T_rI) (b2 : Int) (r : Bool) : FC := ⟨[.v (.ag [.sl false 2 (e_rI false a), .val (.int .i64 a2)]), .v (.ag [.sl false 2 (e_rI false b), .val (.int .i64 b2)])], [.tmp 4], .val (.bool r), [.v (.ag [.sl false 2 (e_rI false a), .val (.int .i64 a2)]), .v (.ag [.sl false 2 (e_rI false b), .val (.int .i64 b2)])]⟩
def n_laws_eqOrdinalTerm_B (rf_n_laws_eqOrdinal : List T_rI → List T_rI → Option Bool) (rf_n_laws_eqOrdinalTermS : List T_rI → List T_rI → Option Bool) (rf_n_laws_eqOrdinalTerm : List T_rI → Int → List T_rI → Int → Option Bool) (a : List T_rI) (a2 : Int) (b : List T_rI) (b2 : Int) : Option Bool :=
  ((rf_n_laws_eqOrdinal a b).bind fun (v9_0 : Bool) =>
  (bif v9_0 then
    (bif (decide (a2 = b2)) then
      some true
    else
      some false)
  else
    some false))
theorem n_laws_eqOrdinalTerm_B_way {I : Nat → St → Prop} {rf_n_laws_eqOrdinal : List T_rI → List T_rI → Option Bool} {rf_n_laws_eqOrdinalTermS : List T_rI → List T_rI → Option Bool} {rf_n_laws_eqOrdinalTerm : List T_rI → Int → List T_rI → Int → Option Bool} (hrf_n_laws_eqOrdinal : ∀ (a : List T_rI) (b : List T_rI) (r : Bool), rf_n_laws_eqOrdinal a b = some r → Sound Tryd.prog F_laws_eqOrdinal [.v (.ag [.sl false 2 (e_rI false a)]), .v (.ag [.sl false 2 (e_rI false b)])] (.val (.bool r)) [.v (.ag [.sl false 2 (e_rI false a)]), .v (.ag [.sl false 2 (e_rI false b)])]) (hrf_n_laws_eqOrdinalTermS : ∀ (a : List T_rI) (b : List T_rI) (r : Bool), rf_n_laws_eqOrdinalTermS a b = some r → Sound Tryd.prog F_laws_eqOrdinalTermS [.v (.sl false 2 (e_rI false a)), .v (.sl false 2 (e_rI false b))] (.val (.bool r)) [.v (.sl false 2 (e_rI false a)), .v (.sl false 2 (e_rI false b))]) (hrf_n_laws_eqOrdinalTerm : ∀ (a : List T_rI) (a2 : Int) (b : List T_rI) (b2 : Int) (r : Bool), rf_n_laws_eqOrdinalTerm a a2 b b2 = some r → Sound Tryd.prog F_laws_eqOrdinalTerm [.v (.ag [.sl false 2 (e_rI false a), .val (.int .i64 a2)]), .v (.ag [.sl false 2 (e_rI false b), .val (.int .i64 b2)])] (.val (.bool r)) [.v (.ag [.sl false 2 (e_rI false a), .val (.int .i64 a2)]), .v (.ag [.sl false 2 (e_rI false b), .val (.int .i64 b2)])]) {a : List T_rI} {a2 : Int} {b : List T_rI} {b2 : Int} {r : Bool} (h : n_laws_eqOrdinalTerm_B rf_n_laws_eqOrdinal rf_n_laws_eqOrdinalTermS rf_n_laws_eqOrdinalTerm a a2 b b2 = some r) : wpx Tryd.prog (FC.pn (fc_n_laws_eqOrdinalTerm a a2 b b2 r)) c_laws_eqOrdinalTerm_k0 (kq Tryd.prog (fc_n_laws_eqOrdinalTerm a a2 b b2 r) I []) (([(0, .ag [.pu (.sl false 2 (e_rI false a)), .pu (.val (.int .i64 a2))]), (1, .ag [.pu (.sl false 2 (e_rI false b)), .pu (.val (.int .i64 b2))])], []) : St).1 (([(0, .ag [.pu (.sl false 2 (e_rI false a)), .pu (.val (.int .i64 a2))]), (1, .ag [.pu (.sl false 2 (e_rI false b)), .pu (.val (.int .i64 b2))])], []) : St).2 := by
  unfold n_laws_eqOrdinalTerm_B at h
  refine bind_elim h (fun v9_0 c1 h => ?_)
  refine bif_elim h (fun c2 h => ?_) (fun c2 h => ?_)
  · refine bif_elim h (fun c3 h => ?_) (fun c3 h => ?_)
    · cases h
      exact wayR 200 [.call (hrf_n_laws_eqOrdinal _ _ _ c1), .br (congrArg not c2), .br (congrArg not c3), .fin0] (by kernel_rfl)
    · cases h
      exact wayR 200 [.call (hrf_n_laws_eqOrdinal _ _ _ c1), .br (congrArg not c2), .br (congrArg not c3), .fin0] (by kernel_rfl)
  · cases h
    exact wayR 200 [.call (hrf_n_laws_eqOrdinal _ _ _ c1), .br (congrArg not c2), .fin0] (by kernel_rfl)
theorem n_laws_eqOrdinalTerm_B_ok {rf_n_laws_eqOrdinal : List T_rI → List T_rI → Option Bool} {rf_n_laws_eqOrdinalTermS : List T_rI → List T_rI → Option Bool} {rf_n_laws_eqOrdinalTerm : List T_rI → Int → List T_rI → Int → Option Bool} (hrf_n_laws_eqOrdinal : ∀ (a : List T_rI) (b : List T_rI) (r : Bool), rf_n_laws_eqOrdinal a b = some r → Sound Tryd.prog F_laws_eqOrdinal [.v (.ag [.sl false 2 (e_rI false a)]), .v (.ag [.sl false 2 (e_rI false b)])] (.val (.bool r)) [.v (.ag [.sl false 2 (e_rI false a)]), .v (.ag [.sl false 2 (e_rI false b)])]) (hrf_n_laws_eqOrdinalTermS : ∀ (a : List T_rI) (b : List T_rI) (r : Bool), rf_n_laws_eqOrdinalTermS a b = some r → Sound Tryd.prog F_laws_eqOrdinalTermS [.v (.sl false 2 (e_rI false a)), .v (.sl false 2 (e_rI false b))] (.val (.bool r)) [.v (.sl false 2 (e_rI false a)), .v (.sl false 2 (e_rI false b))]) (hrf_n_laws_eqOrdinalTerm : ∀ (a : List T_rI) (a2 : Int) (b : List T_rI) (b2 : Int) (r : Bool), rf_n_laws_eqOrdinalTerm a a2 b b2 = some r → Sound Tryd.prog F_laws_eqOrdinalTerm [.v (.ag [.sl false 2 (e_rI false a), .val (.int .i64 a2)]), .v (.ag [.sl false 2 (e_rI false b), .val (.int .i64 b2)])] (.val (.bool r)) [.v (.ag [.sl false 2 (e_rI false a), .val (.int .i64 a2)]), .v (.ag [.sl false 2 (e_rI false b), .val (.int .i64 b2)])]) {a : List T_rI} {a2 : Int} {b : List T_rI} {b2 : Int} {r : Bool} (h : n_laws_eqOrdinalTerm_B rf_n_laws_eqOrdinal rf_n_laws_eqOrdinalTermS rf_n_laws_eqOrdinalTerm a a2 b b2 = some r) : Sound Tryd.prog F_laws_eqOrdinalTerm [.v (.ag [.sl false 2 (e_rI false a), .val (.int .i64 a2)]), .v (.ag [.sl false 2 (e_rI false b), .val (.int .i64 b2)])] (.val (.bool r)) [.v (.ag [.sl false 2 (e_rI false a), .val (.int .i64 a2)]), .v (.ag [.sl false 2 (e_rI false b), .val (.int .i64 b2)])] :=
  soundX hmix ok_laws_eqOrdinalTerm (fc := (fc_n_laws_eqOrdinalTerm a a2 b b2 r)) rfl (S₀ := []) rfl rfl (n_laws_eqOrdinalTerm_B_way hrf_n_laws_eqOrdinal hrf_n_laws_eqOrdinalTermS hrf_n_laws_eqOrdinalTerm h)
def n_laws_eqOrdinal_S : Nat → (List T_rI → List T_rI → Option Bool) × (List T_rI → List T_rI → Option Bool) × (List T_rI → Int → List T_rI → Int → Option Bool)
  | 0 => (fun _ _ => none, fun _ _ => none, fun _ _ _ _ => none)
  | n + 1 => (n_laws_eqOrdinal_B (n_laws_eqOrdinal_S n).1 (n_laws_eqOrdinal_S n).2.1 (n_laws_eqOrdinal_S n).2.2, n_laws_eqOrdinalTermS_B (n_laws_eqOrdinal_S n).1 (n_laws_eqOrdinal_S n).2.1 (n_laws_eqOrdinal_S n).2.2, n_laws_eqOrdinalTerm_B (n_laws_eqOrdinal_S n).1 (n_laws_eqOrdinal_S n).2.1 (n_laws_eqOrdinal_S n).2.2)
def n_laws_eqOrdinal_N (n : Nat) : List T_rI → List T_rI → Option Bool := (n_laws_eqOrdinal_S n).1
def n_laws_eqOrdinalTermS_N (n : Nat) : List T_rI → List T_rI → Option Bool := (n_laws_eqOrdinal_S n).2.1
def n_laws_eqOrdinalTerm_N (n : Nat) : List T_rI → Int → List T_rI → Int → Option Bool := (n_laws_eqOrdinal_S n).2.2
theorem n_laws_eqOrdinal_N_succ (n : Nat) : n_laws_eqOrdinal_N (n + 1) = n_laws_eqOrdinal_B (n_laws_eqOrdinal_N n) (n_laws_eqOrdinalTermS_N n) (n_laws_eqOrdinalTerm_N n) := rfl
theorem n_laws_eqOrdinalTermS_N_succ (n : Nat) : n_laws_eqOrdinalTermS_N (n + 1) = n_laws_eqOrdinalTermS_B (n_laws_eqOrdinal_N n) (n_laws_eqOrdinalTermS_N n) (n_laws_eqOrdinalTerm_N n) := rfl
theorem n_laws_eqOrdinalTerm_N_succ (n : Nat) : n_laws_eqOrdinalTerm_N (n + 1) = n_laws_eqOrdinalTerm_B (n_laws_eqOrdinal_N n) (n_laws_eqOrdinalTermS_N n) (n_laws_eqOrdinalTerm_N n) := rfl
theorem n_laws_eqOrdinal_NN : ∀ n : Nat, (∀ (a : List T_rI) (b : List T_rI) (r : Bool), n_laws_eqOrdinal_N n a b = some r → Sound Tryd.prog F_laws_eqOrdinal [.v (.ag [.sl false 2 (e_rI false a)]), .v (.ag [.sl false 2 (e_rI false b)])] (.val (.bool r)) [.v (.ag [.sl false 2 (e_rI false a)]), .v (.ag [.sl false 2 (e_rI false b)])]) ∧ (∀ (a : List T_rI) (b : List T_rI) (r : Bool), n_laws_eqOrdinalTermS_N n a b = some r → Sound Tryd.prog F_laws_eqOrdinalTermS [.v (.sl false 2 (e_rI false a)), .v (.sl false 2 (e_rI false b))] (.val (.bool r)) [.v (.sl false 2 (e_rI false a)), .v (.sl false 2 (e_rI false b))]) ∧ (∀ (a : List T_rI) (a2 : Int) (b : List T_rI) (b2 : Int) (r : Bool), n_laws_eqOrdinalTerm_N n a a2 b b2 = some r → Sound Tryd.prog F_laws_eqOrdinalTerm [.v (.ag [.sl false 2 (e_rI false a), .val (.int .i64 a2)]), .v (.ag [.sl false 2 (e_rI false b), .val (.int .i64 b2)])] (.val (.bool r)) [.v (.ag [.sl false 2 (e_rI false a), .val (.int .i64 a2)]), .v (.ag [.sl false 2 (e_rI false b), .val (.int .i64 b2)])]) := by
  intro n
  induction n with
  | zero => refine ⟨?_, ?_, ?_⟩ <;> first | trivial | (intros; rename_i h; cases h)
  | succ n ih => exact ⟨fun _ _ r h => n_laws_eqOrdinal_B_ok ih.1 ih.2.1 ih.2.2 h, fun _ _ r h => n_laws_eqOrdinalTermS_B_ok ih.1 ih.2.1 ih.2.2 h, fun _ _ _ _ r h => n_laws_eqOrdinalTerm_B_ok ih.1 ih.2.1 ih.2.2 h⟩
def n_laws_eqOrdinal (a : List T_rI) (b : List T_rI) : Option Bool := n_laws_eqOrdinal_N fuel a b
theorem n_laws_eqOrdinal_ok {a : List T_rI} {b : List T_rI} {r : Bool} (h : n_laws_eqOrdinal a b = some r) : Sound Tryd.prog F_laws_eqOrdinal [.v (.ag [.sl false 2 (e_rI false a)]), .v (.ag [.sl false 2 (e_rI false b)])] (.val (.bool r)) [.v (.ag [.sl false 2 (e_rI false a)]), .v (.ag [.sl false 2 (e_rI false b)])] := (n_laws_eqOrdinal_NN fuel).1 a b r h
def n_laws_eqOrdinalTermS (a : List T_rI) (b : List T_rI) : Option Bool := n_laws_eqOrdinalTermS_N fuel a b
theorem n_laws_eqOrdinalTermS_ok {a : List T_rI} {b : List T_rI} {r : Bool} (h : n_laws_eqOrdinalTermS a b = some r) : Sound Tryd.prog F_laws_eqOrdinalTermS [.v (.sl false 2 (e_rI false a)), .v (.sl false 2 (e_rI false b))] (.val (.bool r)) [.v (.sl false 2 (e_rI false a)), .v (.sl false 2 (e_rI false b))] := (n_laws_eqOrdinal_NN fuel).2.1 a b r h
def n_laws_eqOrdinalTerm (a : List T_rI) (a2 : Int) (b : List T_rI) (b2 : Int) : Option Bool := n_laws_eqOrdinalTerm_N fuel a a2 b b2
theorem n_laws_eqOrdinalTerm_ok {a : List T_rI} {a2 : Int} {b : List T_rI} {b2 : Int} {r : Bool} (h : n_laws_eqOrdinalTerm a a2 b b2 = some r) : Sound Tryd.prog F_laws_eqOrdinalTerm [.v (.ag [.sl false 2 (e_rI false a), .val (.int .i64 a2)]), .v (.ag [.sl false 2 (e_rI false b), .val (.int .i64 b2)])] (.val (.bool r)) [.v (.ag [.sl false 2 (e_rI false a), .val (.int .i64 a2)]), .v (.ag [.sl false 2 (e_rI false b), .val (.int .i64 b2)])] := (n_laws_eqOrdinal_NN fuel).2.2 a a2 b b2 r h

abbrev c_laws_eqRun_r0 : CC := .reg [
    ⟨(some 2), none, .box (.t 0)⟩,
    ⟨(some 3), none, .box (.t 1)⟩,
    ⟨(some 4), none, .mv (.c (.bool false))⟩]
abbrev c_laws_eqRun_r1 : CC := .reg [
    ⟨(some 5), none, .fadr 0 (.t 2)⟩,
    ⟨(some 6), none, .load 1 false (.t 5)⟩,
    ⟨(some 7), none, .fadr 0 (.t 3)⟩,
    ⟨(some 8), none, .load 1 false (.t 7)⟩,
    ⟨(some 9), none, .beq true (.t 6) (.t 8)⟩]
abbrev c_laws_eqRun_r2 : CC := .reg [
    ⟨(some 4), none, .mv (.c (.bool false))⟩]
abbrev c_laws_eqRun_k5 : CC := (.cond (.t 9) (.seq c_laws_eqRun_r2 .ret) .skip)
abbrev c_laws_eqRun_r3 : CC := .reg [
    ⟨(some 10), none, .fadr 1 (.t 2)⟩,
    ⟨(some 11), none, .load 1 true (.t 10)⟩,
    ⟨(some 12), none, .fadr 1 (.t 3)⟩,
    ⟨(some 13), none, .load 1 true (.t 12)⟩,
    ⟨(some 14), none, .call true (.f 92) [(.t 11), (.t 13)]⟩,
    ⟨(some 15), none, .un .not (.t 14)⟩]
abbrev c_laws_eqRun_r4 : CC := .reg [
    ⟨(some 4), none, .mv (.c (.bool false))⟩]
abbrev c_laws_eqRun_k13 : CC := (.cond (.t 15) (.seq c_laws_eqRun_r4 .ret) .skip)
abbrev c_laws_eqRun_r5 : CC := .reg [
    ⟨(some 4), none, .mv (.c (.bool true))⟩]
abbrev c_laws_eqRun_k18 : CC := (.seq c_laws_eqRun_r5 .ret)
abbrev c_laws_eqRun_k10 : CC := (.seq (.seq c_laws_eqRun_r3 c_laws_eqRun_k13) c_laws_eqRun_k18)
abbrev c_laws_eqRun_k2 : CC := (.seq (.seq c_laws_eqRun_r1 c_laws_eqRun_k5) c_laws_eqRun_k10)
abbrev c_laws_eqRun_k0 : CC := (.seq c_laws_eqRun_r0 c_laws_eqRun_k2)
abbrev c_laws_eqRun : CF := ⟨16, [.tmp 4], c_laws_eqRun_k0⟩
abbrev F_laws_eqRun : Nat := 52
theorem ok_laws_eqRun : compileF Tryd.prog 52 = some c_laws_eqRun := by kernel_rfl
def fc_n_laws_eqRun (a : Bool) (a2 : List T_rI) (b : Bool) (b2 : List T_rI) (r : Bool) : FC := ⟨[.v (.ag [.val (.bool a), .sl false 2 (e_rI false a2)]), .v (.ag [.val (.bool b), .sl false 2 (e_rI false b2)])], [.tmp 4], .val (.bool r), [.v (.ag [.val (.bool a), .sl false 2 (e_rI false a2)]), .v (.ag [.val (.bool b), .sl false 2 (e_rI false b2)])]⟩
def n_laws_eqRun  (a : Bool) (a2 : List T_rI) (b : Bool) (b2 : List T_rI) : Option Bool :=
  (bif (decide (a = b)) then
    ((n_laws_eqOrdinal a2 b2).bind fun (v14_0 : Bool) =>
    (bif v14_0 then
      some true
    else
      some false))
  else
    some false)
theorem n_laws_eqRun_way {I : Nat → St → Prop}   {a : Bool} {a2 : List T_rI} {b : Bool} {b2 : List T_rI} {r : Bool} (h : n_laws_eqRun  a a2 b b2 = some r) : wpx Tryd.prog (FC.pn (fc_n_laws_eqRun a a2 b b2 r)) c_laws_eqRun_k0 (kq Tryd.prog (fc_n_laws_eqRun a a2 b b2 r) I []) (([(0, .ag [.pu (.val (.bool a)), .pu (.sl false 2 (e_rI false a2))]), (1, .ag [.pu (.val (.bool b)), .pu (.sl false 2 (e_rI false b2))])], []) : St).1 (([(0, .ag [.pu (.val (.bool a)), .pu (.sl false 2 (e_rI false a2))]), (1, .ag [.pu (.val (.bool b)), .pu (.sl false 2 (e_rI false b2))])], []) : St).2 := by
  unfold n_laws_eqRun at h
  refine bif_elim h (fun c1 h => ?_) (fun c1 h => ?_)
  · refine bind_elim h (fun v14_0 c2 h => ?_)
    refine bif_elim h (fun c3 h => ?_) (fun c3 h => ?_)
    · cases h
      exact wayR 200 [.br (congrArg not c1), .call (n_laws_eqOrdinal_ok c2), .br (congrArg not c3), .fin0] (by kernel_rfl)
    · cases h
      exact wayR 200 [.br (congrArg not c1), .call (n_laws_eqOrdinal_ok c2), .br (congrArg not c3), .fin0] (by kernel_rfl)
  · cases h
    exact wayR 200 [.br (congrArg not c1), .fin0] (by kernel_rfl)
theorem n_laws_eqRun_ok   {a : Bool} {a2 : List T_rI} {b : Bool} {b2 : List T_rI} {r : Bool} (h : n_laws_eqRun  a a2 b b2 = some r) : Sound Tryd.prog F_laws_eqRun [.v (.ag [.val (.bool a), .sl false 2 (e_rI false a2)]), .v (.ag [.val (.bool b), .sl false 2 (e_rI false b2)])] (.val (.bool r)) [.v (.ag [.val (.bool a), .sl false 2 (e_rI false a2)]), .v (.ag [.val (.bool b), .sl false 2 (e_rI false b2)])] :=
  soundX hmix ok_laws_eqRun (fc := (fc_n_laws_eqRun a a2 b b2 r)) rfl (S₀ := []) rfl rfl (n_laws_eqRun_way  h)

abbrev c_laws_eqRunS_r0 : CC := .reg [
    ⟨(some 4), none, .mv (.c (.bool false))⟩]
abbrev c_laws_eqRunS_r1 : CC := .reg [
    ⟨(some 6), none, .mv (.t 0)⟩,
    ⟨(some 7), none, .len false (.t 6)⟩,
    ⟨(some 8), none, .mv (.t 1)⟩,
    ⟨(some 9), none, .len false (.t 8)⟩,
    ⟨(some 10), none, .bin .neq (.t 7) (.t 9)⟩]
abbrev c_laws_eqRunS_r2 : CC := .reg [
    ⟨(some 4), none, .mv (.c (.bool false))⟩]
abbrev c_laws_eqRunS_k5 : CC := (.cond (.t 10) (.seq c_laws_eqRunS_r2 .ret) .skip)
abbrev c_laws_eqRunS_r3 : CC := .reg [
    ⟨(some 5), none, .mv (.c (.int .i64 0))⟩]
abbrev c_laws_eqRunS_r4 : CC := .reg [
    ⟨(some 11), none, .mv (.t 5)⟩,
    ⟨(some 12), none, .mv (.t 0)⟩,
    ⟨(some 13), none, .len false (.t 12)⟩,
    ⟨(some 14), none, .bin .lss (.t 11) (.t 13)⟩]
abbrev c_laws_eqRunS_k18 : CC := (.cond (.t 14) .skip (.exit 0))
abbrev c_laws_eqRunS_r6 : CC := .drw [
    ⟨(some 17), none, .mv (.t 0)⟩,
    ⟨(some 18), none, .mv (.t 5)⟩,
    ⟨(some 19), none, .iadr 2 (.t 17) (.t 18)⟩,
    ⟨(some 20), none, .load 2 true (.t 19)⟩,
    ⟨(some 21), none, .mv (.t 1)⟩,
    ⟨(some 22), none, .mv (.t 5)⟩,
    ⟨(some 23), none, .iadr 2 (.t 21) (.t 22)⟩,
    ⟨(some 24), none, .load 2 true (.t 23)⟩,
    ⟨(some 25), none, .call true (.f 52) [(.t 20), (.t 24)]⟩,
    ⟨(some 26), none, .un .not (.t 25)⟩] [(0, 1), (0, 4), (1, 4), (2, 4), (3, 4), (0, 5), (1, 5), (2, 5), (3, 5), (4, 5), (0, 6), (1, 6), (2, 6), (3, 6), (0, 7), (1, 7), (2, 7), (3, 7)]
abbrev c_laws_eqRunS_r7 : CC := .reg [
    ⟨(some 4), none, .mv (.c (.bool false))⟩]
abbrev c_laws_eqRunS_k25 : CC := (.cond (.t 26) (.seq c_laws_eqRunS_r7 .ret) .skip)
abbrev c_laws_eqRunS_r5 : CC := .reg [
    ⟨(some 15), none, .mv (.t 5)⟩,
    ⟨(some 16), none, .bin .add (.t 15) (.c (.int .i64 1))⟩,
    ⟨(some 5), none, .mv (.t 16)⟩]
abbrev c_laws_eqRunS_k21 : CC := (.seq (.block 1 (.seq c_laws_eqRunS_r6 c_laws_eqRunS_k25)) c_laws_eqRunS_r5)
abbrev c_laws_eqRunS_k15 : CC := (.seq (.seq c_laws_eqRunS_r4 c_laws_eqRunS_k18) c_laws_eqRunS_k21)
abbrev c_laws_eqRunS_k13 : CC := (.block 0 (.loop c_laws_eqRunS_k15))
abbrev c_laws_eqRunS_r8 : CC := .reg [
    ⟨(some 4), none, .mv (.c (.bool true))⟩]
abbrev c_laws_eqRunS_k31 : CC := (.seq c_laws_eqRunS_r8 .ret)
abbrev c_laws_eqRunS_k10 : CC := (.seq (.seq c_laws_eqRunS_r3 c_laws_eqRunS_k13) c_laws_eqRunS_k31)
abbrev c_laws_eqRunS_k2 : CC := (.seq (.seq c_laws_eqRunS_r1 c_laws_eqRunS_k5) c_laws_eqRunS_k10)
abbrev c_laws_eqRunS_k0 : CC := (.seq c_laws_eqRunS_r0 c_laws_eqRunS_k2)
abbrev c_laws_eqRunS : CF := ⟨27, [.tmp 4], c_laws_eqRunS_k0⟩
abbrev F_laws_eqRunS : Nat := 27
theorem ok_laws_eqRunS : compileF Tryd.prog 27 = some c_laws_eqRunS := by kernel_rfl
def fc_n_laws_eqRunS (a : List (Bool × List T_rI)) (b : List (Bool × List T_rI)) (r : Bool) : FC := ⟨[.v (.sl false 2 (e_BLrIz false a)), .v (.sl false 2 (e_BLrIz false b))], [.tmp 4], .val (.bool r), [.v (.sl false 2 (e_BLrIz false a)), .v (.sl false 2 (e_BLrIz false b))]⟩
def T_n_laws_eqRunS_14 (a : List (Bool × List T_rI)) (b : List (Bool × List T_rI)) (i_k14_0 : Int) : St := ([(0, .pu (.sl false 2 (e_BLrIz false a))), (1, .pu (.sl false 2 (e_BLrIz false b))), (5, .pu (.val (.int .i64 i_k14_0)))], [])
def n_laws_eqRunS_b14   (k14 : (List (Bool × List T_rI)) → (List (Bool × List T_rI)) → Int → Option Bool) (a : List (Bool × List T_rI)) (b : List (Bool × List T_rI)) (i_k14_0 : Int) : Option Bool :=
  (bif (decide (i_k14_0 < (a.length : Int))) then
    ((idx a i_k14_0).bind fun (v19_14 : Bool × List T_rI) =>
    ((idx b i_k14_0).bind fun (v23_14 : Bool × List T_rI) =>
    ((n_laws_eqRun v19_14.1 v19_14.2 v23_14.1 v23_14.2).bind fun (v25_14 : Bool) =>
    (bif v25_14 then
      k14 a b (wr (i_k14_0 + 1))
    else
      some false))))
  else
    some true)
def n_laws_eqRunS_l14   : Nat → (List (Bool × List T_rI)) → (List (Bool × List T_rI)) → Int → Option Bool
  | 0, _, _, _ => none
  | n + 1, a, b, i_k14_0 => n_laws_eqRunS_b14   (n_laws_eqRunS_l14   n) a b i_k14_0
theorem n_laws_eqRunS_b14_ok {I : Nat → St → Prop}    {a_0 : List (Bool × List T_rI)} {b_0 : List (Bool × List T_rI)} {r : Bool}  {k14 : (List (Bool × List T_rI)) → (List (Bool × List T_rI)) → Int → Option Bool} (hI14 : ∀ (a : List (Bool × List T_rI)) (b : List (Bool × List T_rI)) (i_k14_0 : Int), k14 a b i_k14_0 = some r → I 1 (T_n_laws_eqRunS_14 a b i_k14_0)) {a : List (Bool × List T_rI)} {b : List (Bool × List T_rI)} {i_k14_0 : Int} (h : n_laws_eqRunS_b14   k14 a b i_k14_0 = some r) : wpx Tryd.prog (FC.pn (fc_n_laws_eqRunS a_0 b_0 r)) c_laws_eqRunS_k15 (kq Tryd.prog (fc_n_laws_eqRunS a_0 b_0 r) I [.lp 1, .blk 0, .sq c_laws_eqRunS_k31]) (T_n_laws_eqRunS_14 a b i_k14_0).1 (T_n_laws_eqRunS_14 a b i_k14_0).2 := by
  unfold n_laws_eqRunS_b14 at h
  refine bif_elim h (fun c1 h => ?_) (fun c1 h => ?_)
  · refine bind_elim h (fun v19_14 c2 h => ?_)
    refine bind_elim h (fun v23_14 c3 h => ?_)
    refine bind_elim h (fun v25_14 c4 h => ?_)
    refine bif_elim h (fun c5 h => ?_) (fun c5 h => ?_)
    · exact wayB 200 [.len (len_ok k_BLrIz false a), .br c1, .row (row_ok k_BLrIz (o := false) c2), .row (row_ok k_BLrIz (o := false) c3), .call (n_laws_eqRun_ok c4), .br (congrArg not c5), .stop [] (T_n_laws_eqRunS_14 a b (wr (i_k14_0 + 1)))] 1 (hI14 _ _ _ h) (by kernel_rfl)
    · cases h
      exact wayR 200 [.len (len_ok k_BLrIz false a), .br c1, .row (row_ok k_BLrIz (o := false) c2), .row (row_ok k_BLrIz (o := false) c3), .call (n_laws_eqRun_ok c4), .br (congrArg not c5), .fin0] (by kernel_rfl)
  · cases h
    exact wayR 200 [.len (len_ok k_BLrIz false a), .br c1, .fin0] (by kernel_rfl)
theorem n_laws_eqRunS_l14_ok {I : Nat → St → Prop}    {a_0 : List (Bool × List T_rI)} {b_0 : List (Bool × List T_rI)} {r : Bool}  : ∀ (n : Nat) (a : List (Bool × List T_rI)) (b : List (Bool × List T_rI)) (i_k14_0 : Int), n_laws_eqRunS_l14   n a b i_k14_0 = some r → wpx Tryd.prog (FC.pn (fc_n_laws_eqRunS a_0 b_0 r)) (.loop c_laws_eqRunS_k15) (kq Tryd.prog (fc_n_laws_eqRunS a_0 b_0 r) I [.blk 0, .sq c_laws_eqRunS_k31]) (T_n_laws_eqRunS_14 a b i_k14_0).1 (T_n_laws_eqRunS_14 a b i_k14_0).2 := by
  intro n a b i_k14_0 h
  exact loopN (fc := (fc_n_laws_eqRunS a_0 b_0 r)) (I := I) (j := 1) (V := (List (Bool × List T_rI)) × (List (Bool × List T_rI)) × Int) (fun n v => n_laws_eqRunS_l14   n v.1 v.2.1 v.2.2) (fun v => T_n_laws_eqRunS_14 v.1 v.2.1 v.2.2) r (fun v h => by simp [n_laws_eqRunS_l14] at h) (fun n v h I' hne hI' => n_laws_eqRunS_b14_ok   (k14 := n_laws_eqRunS_l14   n) (fun a b i_k14_0 h => hI' (a, b, i_k14_0) h) h) (fun I' hne => kq_congr fun i hi => hne i (notIn_ne (by rfl) i hi)) n (a, b, i_k14_0) h
def n_laws_eqRunS  (a : List (Bool × List T_rI)) (b : List (Bool × List T_rI)) : Option Bool :=
  (bif (decide ((a.length : Int) = (b.length : Int))) then
    n_laws_eqRunS_l14 fuel a b 0
  else
    some false)
theorem n_laws_eqRunS_way {I : Nat → St → Prop}   {a : List (Bool × List T_rI)} {b : List (Bool × List T_rI)} {r : Bool} (h : n_laws_eqRunS  a b = some r) : wpx Tryd.prog (FC.pn (fc_n_laws_eqRunS a b r)) c_laws_eqRunS_k0 (kq Tryd.prog (fc_n_laws_eqRunS a b r) I []) (([(0, .pu (.sl false 2 (e_BLrIz false a))), (1, .pu (.sl false 2 (e_BLrIz false b)))], []) : St).1 (([(0, .pu (.sl false 2 (e_BLrIz false a))), (1, .pu (.sl false 2 (e_BLrIz false b)))], []) : St).2 := by
  unfold n_laws_eqRunS at h
  refine bif_elim h (fun c1 h => ?_) (fun c1 h => ?_)
  · exact way 200 [.len (len_ok k_BLrIz false a), .len (len_ok k_BLrIz false b), .br (congrArg not c1), .stop [] (T_n_laws_eqRunS_14 a b 0)] (n_laws_eqRunS_l14_ok _ _ _ _ h) (by kernel_rfl)
  · cases h
    exact wayR 200 [.len (len_ok k_BLrIz false a), .len (len_ok k_BLrIz false b), .br (congrArg not c1), .fin0] (by kernel_rfl)
theorem n_laws_eqRunS_ok   {a : List (Bool × List T_rI)} {b : List (Bool × List T_rI)} {r : Bool} (h : n_laws_eqRunS  a b = some r) : Sound Tryd.prog F_laws_eqRunS [.v (.sl false 2 (e_BLrIz false a)), .v (.sl false 2 (e_BLrIz false b))] (.val (.bool r)) [.v (.sl false 2 (e_BLrIz false a)), .v (.sl false 2 (e_BLrIz false b))] :=
  soundX hmix ok_laws_eqRunS (fc := (fc_n_laws_eqRunS a b r)) rfl (S₀ := []) rfl rfl (n_laws_eqRunS_way  h)

abbrev c_laws_eqWord_r0 : CC := .reg [
    ⟨(some 2), none, .box (.t 0)⟩,
    ⟨(some 3), none, .box (.t 1)⟩,
    ⟨(some 4), none, .mv (.c (.bool false))⟩]
abbrev c_laws_eqWord_r1 : CC := .reg [
    ⟨(some 5), none, .fadr 0 (.t 2)⟩,
    ⟨(some 6), none, .load 1 false (.t 5)⟩,
    ⟨(some 7), none, .fadr 0 (.t 3)⟩,
    ⟨(some 8), none, .load 1 false (.t 7)⟩,
    ⟨(some 9), none, .call true (.f 27) [(.t 6), (.t 8)]⟩,
    ⟨(some 10), none, .un .not (.t 9)⟩]
abbrev c_laws_eqWord_r2 : CC := .reg [
    ⟨(some 4), none, .mv (.c (.bool false))⟩]
abbrev c_laws_eqWord_k5 : CC := (.cond (.t 10) (.seq c_laws_eqWord_r2 .ret) .skip)
abbrev c_laws_eqWord_r3 : CC := .reg [
    ⟨(some 4), none, .mv (.c (.bool true))⟩]
abbrev c_laws_eqWord_k10 : CC := (.seq c_laws_eqWord_r3 .ret)
abbrev c_laws_eqWord_k2 : CC := (.seq (.seq c_laws_eqWord_r1 c_laws_eqWord_k5) c_laws_eqWord_k10)
abbrev c_laws_eqWord_k0 : CC := (.seq c_laws_eqWord_r0 c_laws_eqWord_k2)
abbrev c_laws_eqWord : CF := ⟨11, [.tmp 4], c_laws_eqWord_k0⟩
abbrev F_laws_eqWord : Nat := 8
theorem ok_laws_eqWord : compileF Tryd.prog 8 = some c_laws_eqWord := by kernel_rfl
def fc_n_laws_eqWord (a : List (Bool × List T_rI)) (b : List (Bool × List T_rI)) (r : Bool) : FC := ⟨[.v (.ag [.sl false 2 (e_BLrIz false a)]), .v (.ag [.sl false 2 (e_BLrIz false b)])], [.tmp 4], .val (.bool r), [.v (.ag [.sl false 2 (e_BLrIz false a)]), .v (.ag [.sl false 2 (e_BLrIz false b)])]⟩
def n_laws_eqWord  (a : List (Bool × List T_rI)) (b : List (Bool × List T_rI)) : Option Bool :=
  ((n_laws_eqRunS a b).bind fun (v9_0 : Bool) =>
  (bif v9_0 then
    some true
  else
    some false))
theorem n_laws_eqWord_way {I : Nat → St → Prop}   {a : List (Bool × List T_rI)} {b : List (Bool × List T_rI)} {r : Bool} (h : n_laws_eqWord  a b = some r) : wpx Tryd.prog (FC.pn (fc_n_laws_eqWord a b r)) c_laws_eqWord_k0 (kq Tryd.prog (fc_n_laws_eqWord a b r) I []) (([(0, .ag [.pu (.sl false 2 (e_BLrIz false a))]), (1, .ag [.pu (.sl false 2 (e_BLrIz false b))])], []) : St).1 (([(0, .ag [.pu (.sl false 2 (e_BLrIz false a))]), (1, .ag [.pu (.sl false 2 (e_BLrIz false b))])], []) : St).2 := by
  unfold n_laws_eqWord at h
  refine bind_elim h (fun v9_0 c1 h => ?_)
  refine bif_elim h (fun c2 h => ?_) (fun c2 h => ?_)
  · cases h
    exact wayR 200 [.call (n_laws_eqRunS_ok c1), .br (congrArg not c2), .fin0] (by kernel_rfl)
  · cases h
    exact wayR 200 [.call (n_laws_eqRunS_ok c1), .br (congrArg not c2), .fin0] (by kernel_rfl)
theorem n_laws_eqWord_ok   {a : List (Bool × List T_rI)} {b : List (Bool × List T_rI)} {r : Bool} (h : n_laws_eqWord  a b = some r) : Sound Tryd.prog F_laws_eqWord [.v (.ag [.sl false 2 (e_BLrIz false a)]), .v (.ag [.sl false 2 (e_BLrIz false b)])] (.val (.bool r)) [.v (.ag [.sl false 2 (e_BLrIz false a)]), .v (.ag [.sl false 2 (e_BLrIz false b)])] :=
  soundX hmix ok_laws_eqWord (fc := (fc_n_laws_eqWord a b r)) rfl (S₀ := []) rfl rfl (n_laws_eqWord_way  h)

abbrev c_laws_szOrdinal_r0 : CC := .reg [
    ⟨(some 2), none, .box (.t 0)⟩,
    ⟨(some 4), none, .mv (.c (.int .i64 0))⟩]
abbrev c_laws_szOrdinal_r1 : CC := .reg [
    ⟨(some 5), none, .fadr 0 (.t 2)⟩,
    ⟨(some 6), none, .load 1 false (.t 5)⟩,
    ⟨(some 7), none, .mv (.t 1)⟩,
    ⟨(some 8), none, .call true (.f 120) [(.t 6), (.t 7)]⟩,
    ⟨(some 1), none, .mv (.t 8)⟩]
abbrev c_laws_szOrdinal_r2 : CC := .reg [
    ⟨(some 9), none, .mv (.t 1)⟩,
    ⟨(some 10), none, .bin .lss (.t 9) (.c (.int .i64 0))⟩]
abbrev c_laws_szOrdinal_r3 : CC := .reg [
    ⟨(some 4), none, .mv (.c (.int .i64 (-1)))⟩]
abbrev c_laws_szOrdinal_k7 : CC := (.cond (.t 10) (.seq c_laws_szOrdinal_r3 .ret) .skip)
abbrev c_laws_szOrdinal_r4 : CC := .reg [
    ⟨(some 11), none, .mv (.t 1)⟩,
    ⟨(some 4), none, .mv (.t 11)⟩]
abbrev c_laws_szOrdinal_k12 : CC := (.seq c_laws_szOrdinal_r4 .ret)
abbrev c_laws_szOrdinal_k4 : CC := (.seq (.seq c_laws_szOrdinal_r2 c_laws_szOrdinal_k7) c_laws_szOrdinal_k12)
abbrev c_laws_szOrdinal_k2 : CC := (.seq c_laws_szOrdinal_r1 c_laws_szOrdinal_k4)
abbrev c_laws_szOrdinal_k0 : CC := (.seq c_laws_szOrdinal_r0 c_laws_szOrdinal_k2)
abbrev c_laws_szOrdinal : CF := ⟨12, [.tmp 4], c_laws_szOrdinal_k0⟩
abbrev F_laws_szOrdinal : Nat := 93
theorem ok_laws_szOrdinal : compileF Tryd.prog 93 = some c_laws_szOrdinal := by kernel_rfl
abbrev c_laws_szOrdinalTermS_r0 : CC := .reg [
    ⟨(some 4), none, .mv (.c (.int .i64 0))⟩]
abbrev c_laws_szOrdinalTermS_r1 : CC := .reg [
    ⟨(some 6), none, .mv (.t 1)⟩,
    ⟨(some 7), none, .mv (.t 0)⟩,
    ⟨(some 8), none, .len false (.t 7)⟩,
    ⟨(some 9), none, .bin .sub (.t 6) (.t 8)⟩,
    ⟨(some 1), none, .mv (.t 9)⟩]
abbrev c_laws_szOrdinalTermS_r2 : CC := .reg [
    ⟨(some 10), none, .mv (.t 1)⟩,
    ⟨(some 11), none, .bin .lss (.t 10) (.c (.int .i64 0))⟩]
abbrev c_laws_szOrdinalTermS_r3 : CC := .reg [
    ⟨(some 4), none, .mv (.c (.int .i64 (-1)))⟩]
abbrev c_laws_szOrdinalTermS_k7 : CC := (.cond (.t 11) (.seq c_laws_szOrdinalTermS_r3 .ret) .skip)
abbrev c_laws_szOrdinalTermS_r4 : CC := .reg [
    ⟨(some 5), none, .mv (.c (.int .i64 0))⟩]
abbrev c_laws_szOrdinalTermS_r5 : CC := .reg [
    ⟨(some 12), none, .mv (.t 5)⟩,
    ⟨(some 13), none, .mv (.t 0)⟩,
    ⟨(some 14), none, .len false (.t 13)⟩,
    ⟨(some 15), none, .bin .lss (.t 12) (.t 14)⟩]
abbrev c_laws_szOrdinalTermS_k20 : CC := (.cond (.t 15) .skip (.exit 0))
abbrev c_laws_szOrdinalTermS_r7 : CC := .reg [
    ⟨(some 18), none, .mv (.t 0)⟩,
    ⟨(some 19), none, .mv (.t 5)⟩,
    ⟨(some 20), none, .iadr 2 (.t 18) (.t 19)⟩,
    ⟨(some 21), none, .load 2 true (.t 20)⟩,
    ⟨(some 22), none, .mv (.t 1)⟩,
    ⟨(some 23), none, .call true (.f 140) [(.t 21), (.t 22)]⟩,
    ⟨(some 1), none, .mv (.t 23)⟩]
abbrev c_laws_szOrdinalTermS_r8 : CC := .reg [
    ⟨(some 24), none, .mv (.t 1)⟩,
    ⟨(some 25), none, .bin .lss (.t 24) (.c (.int .i64 0))⟩]
abbrev c_laws_szOrdinalTermS_r9 : CC := .reg [
    ⟨(some 4), none, .mv (.c (.int .i64 (-1)))⟩]
abbrev c_laws_szOrdinalTermS_k29 : CC := (.cond (.t 25) (.seq c_laws_szOrdinalTermS_r9 .ret) .skip)
abbrev c_laws_szOrdinalTermS_k27 : CC := (.seq c_laws_szOrdinalTermS_r8 c_laws_szOrdinalTermS_k29)
abbrev c_laws_szOrdinalTermS_r6 : CC := .reg [
    ⟨(some 16), none, .mv (.t 5)⟩,
    ⟨(some 17), none, .bin .add (.t 16) (.c (.int .i64 1))⟩,
    ⟨(some 5), none, .mv (.t 17)⟩]
abbrev c_laws_szOrdinalTermS_k23 : CC := (.seq (.block 1 (.seq c_laws_szOrdinalTermS_r7 c_laws_szOrdinalTermS_k27)) c_laws_szOrdinalTermS_r6)
abbrev c_laws_szOrdinalTermS_k17 : CC := (.seq (.seq c_laws_szOrdinalTermS_r5 c_laws_szOrdinalTermS_k20) c_laws_szOrdinalTermS_k23)
abbrev c_laws_szOrdinalTermS_k15 : CC := (.block 0 (.loop c_laws_szOrdinalTermS_k17))
abbrev c_laws_szOrdinalTermS_r10 : CC := .reg [
    ⟨(some 26), none, .mv (.t 1)⟩,
    ⟨(some 4), none, .mv (.t 26)⟩]
abbrev c_laws_szOrdinalTermS_k35 : CC := (.seq c_laws_szOrdinalTermS_r10 .ret)
abbrev c_laws_szOrdinalTermS_k12 : CC := (.seq (.seq c_laws_szOrdinalTermS_r4 c_laws_szOrdinalTermS_k15) c_laws_szOrdinalTermS_k35)
abbrev c_laws_szOrdinalTermS_k4 : CC := (.seq (.seq c_laws_szOrdinalTermS_r2 c_laws_szOrdinalTermS_k7) c_laws_szOrdinalTermS_k12)
abbrev c_laws_szOrdinalTermS_k2 : CC := (.seq c_laws_szOrdinalTermS_r1 c_laws_szOrdinalTermS_k4)
abbrev c_laws_szOrdinalTermS_k0 : CC := (.seq c_laws_szOrdinalTermS_r0 c_laws_szOrdinalTermS_k2)
abbrev c_laws_szOrdinalTermS : CF := ⟨27, [.tmp 4], c_laws_szOrdinalTermS_k0⟩
abbrev F_laws_szOrdinalTermS : Nat := 120
theorem ok_laws_szOrdinalTermS : compileF Tryd.prog 120 = some c_laws_szOrdinalTermS := by kernel_rfl
abbrev c_laws_szOrdinalTerm_r0 : CC := .reg [
    ⟨(some 2), none, .box (.t 0)⟩,
    ⟨(some 4), none, .mv (.c (.int .i64 0))⟩]
abbrev c_laws_szOrdinalTerm_r1 : CC := .reg [
    ⟨(some 5), none, .fadr 0 (.t 2)⟩,
    ⟨(some 6), none, .load 1 true (.t 5)⟩,
    ⟨(some 7), none, .mv (.t 1)⟩,
    ⟨(some 8), none, .call true (.f 93) [(.t 6), (.t 7)]⟩,
    ⟨(some 1), none, .mv (.t 8)⟩]
abbrev c_laws_szOrdinalTerm_r2 : CC := .reg [
    ⟨(some 9), none, .mv (.t 1)⟩,
    ⟨(some 10), none, .bin .lss (.t 9) (.c (.int .i64 0))⟩]
abbrev c_laws_szOrdinalTerm_r3 : CC := .reg [
    ⟨(some 4), none, .mv (.c (.int .i64 (-1)))⟩]
abbrev c_laws_szOrdinalTerm_k7 : CC := (.cond (.t 10) (.seq c_laws_szOrdinalTerm_r3 .ret) .skip)
abbrev c_laws_szOrdinalTerm_r4 : CC := .reg [
    ⟨(some 11), none, .mv (.t 1)⟩,
    ⟨(some 4), none, .mv (.t 11)⟩]
abbrev c_laws_szOrdinalTerm_k12 : CC := (.seq c_laws_szOrdinalTerm_r4 .ret)
abbrev c_laws_szOrdinalTerm_k4 : CC := (.seq (.seq c_laws_szOrdinalTerm_r2 c_laws_szOrdinalTerm_k7) c_laws_szOrdinalTerm_k12)
abbrev c_laws_szOrdinalTerm_k2 : CC := (.seq c_laws_szOrdinalTerm_r1 c_laws_szOrdinalTerm_k4)
abbrev c_laws_szOrdinalTerm_k0 : CC := (.seq c_laws_szOrdinalTerm_r0 c_laws_szOrdinalTerm_k2)
abbrev c_laws_szOrdinalTerm : CF := ⟨12, [.tmp 4], c_laws_szOrdinalTerm_k0⟩
abbrev F_laws_szOrdinalTerm : Nat := 140
theorem ok_laws_szOrdinalTerm : compileF Tryd.prog 140 = some c_laws_szOrdinalTerm := by kernel_rfl
def fc_n_laws_szOrdinal (a : List T_rI) (left : Int) (r : Int) : FC := ⟨[.v (.ag [.sl false 2 (e_rI false a)]), .v (.val (.int .i64 left))], [.tmp 4], .val (.int .i64 r), [.v (.ag [.sl false 2 (e_rI false a)]), .v (.val (.int .i64 left))]⟩
def n_laws_szOrdinal_B (rf_n_laws_szOrdinal : List T_rI → Int → Option Int) (rf_n_laws_szOrdinalTermS : List T_rI → Int → Option Int) (rf_n_laws_szOrdinalTerm : List T_rI → Int → Int → Option Int) (a : List T_rI) (left : Int) : Option Int :=
  ((rf_n_laws_szOrdinalTermS a left).bind fun (v8_0 : Int) =>
  (bif (decide (v8_0 < 0)) then
    some (-1)
  else
    some v8_0))
theorem n_laws_szOrdinal_B_way {I : Nat → St → Prop} {rf_n_laws_szOrdinal : List T_rI → Int → Option Int} {rf_n_laws_szOrdinalTermS : List T_rI → Int → Option Int} {rf_n_laws_szOrdinalTerm : List T_rI → Int → Int → Option Int} (hrf_n_laws_szOrdinal : ∀ (a : List T_rI) (left : Int) (r : Int), rf_n_laws_szOrdinal a left = some r → Sound Tryd.prog F_laws_szOrdinal [.v (.ag [.sl false 2 (e_rI false a)]), .v (.val (.int .i64 left))] (.val (.int .i64 r)) [.v (.ag [.sl false 2 (e_rI false a)]), .v (.val (.int .i64 left))]) (hrf_n_laws_szOrdinalTermS : ∀ (a : List T_rI) (left : Int) (r : Int), rf_n_laws_szOrdinalTermS a left = some r → Sound Tryd.prog F_laws_szOrdinalTermS [.v (.sl false 2 (e_rI false a)), .v (.val (.int .i64 left))] (.val (.int .i64 r)) [.v (.sl false 2 (e_rI false a)), .v (.val (.int .i64 left))]) (hrf_n_laws_szOrdinalTerm : ∀ (a : List T_rI) (a2 : Int) (left : Int) (r : Int), rf_n_laws_szOrdinalTerm a a2 left = some r → Sound Tryd.prog F_laws_szOrdinalTerm [.v (.ag [.sl false 2 (e_rI false a), .val (.int .i64 a2)]), .v (.val (.int .i64 left))] (.val (.int .i64 r)) [.v (.ag [.sl false 2 (e_rI false a), .val (.int .i64 a2)]), .v (.val (.int .i64 left))]) {a : List T_rI} {left : Int} {r : Int} (h : n_laws_szOrdinal_B rf_n_laws_szOrdinal rf_n_laws_szOrdinalTermS rf_n_laws_szOrdinalTerm a left = some r) : wpx Tryd.prog (FC.pn (fc_n_laws_szOrdinal a left r)) c_laws_szOrdinal_k0 (kq Tryd.prog (fc_n_laws_szOrdinal a left r) I []) (([(0, .ag [.pu (.sl false 2 (e_rI false a))]), (1, .pu (.val (.int .i64 left)))], []) : St).1 (([(0, .ag [.pu (.sl false 2 (e_rI false a))]), (1, .pu (.val (.int .i64 left)))], []) : St).2 := by
  unfold n_laws_szOrdinal_B at h
  refine bind_elim h (fun v8_0 c1 h => ?_)
  refine bif_elim h (fun c2 h => ?_) (fun c2 h => ?_)
  · cases h
    exact wayR 200 [.call (hrf_n_laws_szOrdinalTermS _ _ _ c1), .br c2, .fin0] (by kernel_rfl)
  · cases h
    exact wayR 200 [.call (hrf_n_laws_szOrdinalTermS _ _ _ c1), .br c2, .fin0] (by kernel_rfl)
theorem n_laws_szOrdinal_B_ok {rf_n_laws_szOrdinal : List T_rI → Int → Option Int} {rf_n_laws_szOrdinalTermS : List T_rI → Int → Option Int} {rf_n_laws_szOrdinalTerm : List T_rI → Int → Int → Option Int} (hrf_n_laws_szOrdinal : ∀ (a : List T_rI) (left : Int) (r : Int), rf_n_laws_szOrdinal a left = some r → Sound Tryd.prog F_laws_szOrdinal [.v (.ag [.sl false 2 (e_rI false a)]), .v (.val (.int .i64 left))] (.val (.int .i64 r)) [.v (.ag [.sl false 2 (e_rI false a)]), .v (.val (.int .i64 left))]) (hrf_n_laws_szOrdinalTermS : ∀ (a : List T_rI) (left : Int) (r : Int), rf_n_laws_szOrdinalTermS a left = some r → Sound Tryd.prog F_laws_szOrdinalTermS [.v (.sl false 2 (e_rI false a)), .v (.val (.int .i64 left))] (.val (.int .i64 r)) [.v (.sl false 2 (e_rI false a)), .v (.val (.int .i64 left))]) (hrf_n_laws_szOrdinalTerm : ∀ (a : List T_rI) (a2 : Int) (left : Int) (r : Int), rf_n_laws_szOrdinalTerm a a2 left = some r → Sound Tryd.prog F_laws_szOrdinalTerm [.v (.ag [.sl false 2 (e_rI false a), .val (.int .i64 a2)]), .v (.val (.int .i64 left))] (.val (.int .i64 r)) [.v (.ag [.sl false 2 (e_rI false a), .val (.int .i64 a2)]), .v (.val (.int .i64 left))]) {a : List T_rI} {left : Int} {r : Int} (h : n_laws_szOrdinal_B rf_n_laws_szOrdinal rf_n_laws_szOrdinalTermS rf_n_laws_szOrdinalTerm a left = some r) : Sound Tryd.prog F_laws_szOrdinal [.v (.ag [.sl false 2 (e_rI false a)]), .v (.val (.int .i64 left))] (.val (.int .i64 r)) [.v (.ag [.sl false 2 (e_rI false a)]), .v (.val (.int .i64 left))] :=
  soundX hmix ok_laws_szOrdinal (fc := (fc_n_laws_szOrdinal a left r)) rfl (S₀ := []) rfl rfl (n_laws_szOrdinal_B_way hrf_n_laws_szOrdinal hrf_n_laws_szOrdinalTermS hrf_n_laws_szOrdinalTerm h)
def fc_n_laws_szOrdinalTermS (a : List T_rI) (left : Int) (r : Int) : FC := ⟨[.v (.sl false 2 (e_rI false a)), .v (.val (.int .i64 left))], [.tmp 4], .val (.int .i64 r), [.v (.sl false 2 (e_rI false a)), .v (.val (.int .i64 left))]⟩
def T_n_laws_szOrdinalTermS_16 (a : List T_rI) (left_k16_0 : Int) (i_k16_1 : Int) : St := ([(0, .pu (.sl false 2 (e_rI false a))), (1, .pu (.val (.int .i64 left_k16_0))), (5, .pu (.val (.int .i64 i_k16_1)))], [])
def n_laws_szOrdinalTermS_b16 (rf_n_laws_szOrdinal : List T_rI → Int → Option Int) (rf_n_laws_szOrdinalTermS : List T_rI → Int → Option Int) (rf_n_laws_szOrdinalTerm : List T_rI → Int → Int → Option Int)  (k16 : List T_rI → Int → Int → Option Int) (a : List T_rI) (left_k16_0 : Int) (i_k16_1 : Int) : Option Int :=
  (bif (decide (i_k16_1 < (a.length : Int))) then
    ((idx a i_k16_1).bind fun (v20_16 : T_rI) =>
    ((rf_n_laws_szOrdinalTerm v20_16.c0 v20_16.c1 left_k16_0).bind fun (v23_16 : Int) =>
    (bif (decide (v23_16 < 0)) then
      some (-1)
    else
      k16 a v23_16 (wr (i_k16_1 + 1)))))
  else
    some left_k16_0)
def n_laws_szOrdinalTermS_l16 (rf_n_laws_szOrdinal : List T_rI → Int → Option Int) (rf_n_laws_szOrdinalTermS : List T_rI → Int → Option Int) (rf_n_laws_szOrdinalTerm : List T_rI → Int → Int → Option Int)  : Nat → List T_rI → Int → Int → Option Int
  | 0, _, _, _ => none
  | n + 1, a, left_k16_0, i_k16_1 => n_laws_szOrdinalTermS_b16 rf_n_laws_szOrdinal rf_n_laws_szOrdinalTermS rf_n_laws_szOrdinalTerm  (n_laws_szOrdinalTermS_l16 rf_n_laws_szOrdinal rf_n_laws_szOrdinalTermS rf_n_laws_szOrdinalTerm  n) a left_k16_0 i_k16_1
theorem n_laws_szOrdinalTermS_b16_ok {I : Nat → St → Prop} {rf_n_laws_szOrdinal : List T_rI → Int → Option Int} {rf_n_laws_szOrdinalTermS : List T_rI → Int → Option Int} {rf_n_laws_szOrdinalTerm : List T_rI → Int → Int → Option Int} (hrf_n_laws_szOrdinal : ∀ (a : List T_rI) (left : Int) (r : Int), rf_n_laws_szOrdinal a left = some r → Sound Tryd.prog F_laws_szOrdinal [.v (.ag [.sl false 2 (e_rI false a)]), .v (.val (.int .i64 left))] (.val (.int .i64 r)) [.v (.ag [.sl false 2 (e_rI false a)]), .v (.val (.int .i64 left))]) (hrf_n_laws_szOrdinalTermS : ∀ (a : List T_rI) (left : Int) (r : Int), rf_n_laws_szOrdinalTermS a left = some r → Sound Tryd.prog F_laws_szOrdinalTermS [.v (.sl false 2 (e_rI false a)), .v (.val (.int .i64 left))] (.val (.int .i64 r)) [.v (.sl false 2 (e_rI false a)), .v (.val (.int .i64 left))]) (hrf_n_laws_szOrdinalTerm : ∀ (a : List T_rI) (a2 : Int) (left : Int) (r : Int), rf_n_laws_szOrdinalTerm a a2 left = some r → Sound Tryd.prog F_laws_szOrdinalTerm [.v (.ag [.sl false 2 (e_rI false a), .val (.int .i64 a2)]), .v (.val (.int .i64 left))] (.val (.int .i64 r)) [.v (.ag [.sl false 2 (e_rI false a), .val (.int .i64 a2)]), .v (.val (.int .i64 left))])  {a_0 : List T_rI} {left : Int} {r : Int}  {k16 : List T_rI → Int → Int → Option Int} (hI16 : ∀ (a : List T_rI) (left_k16_0 : Int) (i_k16_1 : Int), k16 a left_k16_0 i_k16_1 = some r → I 1 (T_n_laws_szOrdinalTermS_16 a left_k16_0 i_k16_1)) {a : List T_rI} {left_k16_0 : Int} {i_k16_1 : Int} (h : n_laws_szOrdinalTermS_b16 rf_n_laws_szOrdinal rf_n_laws_szOrdinalTermS rf_n_laws_szOrdinalTerm  k16 a left_k16_0 i_k16_1 = some r) : wpx Tryd.prog (FC.pn (fc_n_laws_szOrdinalTermS a_0 left r)) c_laws_szOrdinalTermS_k17 (kq Tryd.prog (fc_n_laws_szOrdinalTermS a_0 left r) I [.lp 1, .blk 0, .sq c_laws_szOrdinalTermS_k35]) (T_n_laws_szOrdinalTermS_16 a left_k16_0 i_k16_1).1 (T_n_laws_szOrdinalTermS_16 a left_k16_0 i_k16_1).2 := by
  unfold n_laws_szOrdinalTermS_b16 at h
  refine bif_elim h (fun c1 h => ?_) (fun c1 h => ?_)
  · refine bind_elim h (fun v20_16 c2 h => ?_)
    refine bind_elim h (fun v23_16 c3 h => ?_)
    refine bif_elim h (fun c4 h => ?_) (fun c4 h => ?_)
    · cases h
      exact wayR 200 [.len (len_ok k_rI false a), .br c1, .row (row_ok k_rI (o := false) c2), .call (hrf_n_laws_szOrdinalTerm _ _ _ _ c3), .br c4, .fin0] (by kernel_rfl)
    · exact wayB 200 [.len (len_ok k_rI false a), .br c1, .row (row_ok k_rI (o := false) c2), .call (hrf_n_laws_szOrdinalTerm _ _ _ _ c3), .br c4, .stop [] (T_n_laws_szOrdinalTermS_16 a v23_16 (wr (i_k16_1 + 1)))] 1 (hI16 _ _ _ h) (by kernel_rfl)
  · cases h
    exact wayR 200 [.len (len_ok k_rI false a), .br c1, .fin0] (by kernel_rfl)
theorem n_laws_szOrdinalTermS_l16_ok {I : Nat → St → Prop} {rf_n_laws_szOrdinal : List T_rI → Int → Option Int} {rf_n_laws_szOrdinalTermS : List T_rI → Int → Option Int} {rf_n_laws_szOrdinalTerm : List T_rI → Int → Int → Option Int} (hrf_n_laws_szOrdinal : ∀ (a : List T_rI) (left : Int) (r : Int), rf_n_laws_szOrdinal a left = some r → Sound Tryd.prog F_laws_szOrdinal [.v (.ag [.sl false 2 (e_rI false a)]), .v (.val (.int .i64 left))] (.val (.int .i64 r)) [.v (.ag [.sl false 2 (e_rI false a)]), .v (.val (.int .i64 left))]) (hrf_n_laws_szOrdinalTermS : ∀ (a : List T_rI) (left : Int) (r : Int), rf_n_laws_szOrdinalTermS a left = some r → Sound Tryd.prog F_laws_szOrdinalTermS [.v (.sl false 2 (e_rI false a)), .v (.val (.int .i64 left))] (.val (.int .i64 r)) [.v (.sl false 2 (e_rI false a)), .v (.val (.int .i64 left))]) (hrf_n_laws_szOrdinalTerm : ∀ (a : List T_rI) (a2 : Int) (left : Int) (r : Int), rf_n_laws_szOrdinalTerm a a2 left = some r → Sound Tryd.prog F_laws_szOrdinalTerm [.v (.ag [.sl false 2 (e_rI false a), .val (.int .i64 a2)]), .v (.val (.int .i64 left))] (.val (.int .i64 r)) [.v (.ag [.sl false 2 (e_rI false a), .val (.int .i64 a2)]), .v (.val (.int .i64 left))])  {a_0 : List T_rI} {left : Int} {r : Int}  : ∀ (n : Nat) (a : List T_rI) (left_k16_0 : Int) (i_k16_1 : Int), n_laws_szOrdinalTermS_l16 rf_n_laws_szOrdinal rf_n_laws_szOrdinalTermS rf_n_laws_szOrdinalTerm  n a left_k16_0 i_k16_1 = some r → wpx Tryd.prog (FC.pn (fc_n_laws_szOrdinalTermS a_0 left r)) (.loop c_laws_szOrdinalTermS_k17) (kq Tryd.prog (fc_n_laws_szOrdinalTermS a_0 left r) I [.blk 0, .sq c_laws_szOrdinalTermS_k35]) (T_n_laws_szOrdinalTermS_16 a left_k16_0 i_k16_1).1 (T_n_laws_szOrdinalTermS_16 a left_k16_0 i_k16_1).2 := by
  intro n a left_k16_0 i_k16_1 h
  exact loopN (fc := (fc_n_laws_szOrdinalTermS a_0 left r)) (I := I) (j := 1) (V := List T_rI × Int × Int) (fun n v => n_laws_szOrdinalTermS_l16 rf_n_laws_szOrdinal rf_n_laws_szOrdinalTermS rf_n_laws_szOrdinalTerm  n v.1 v.2.1 v.2.2) (fun v => T_n_laws_szOrdinalTermS_16 v.1 v.2.1 v.2.2) r (fun v h => by simp [n_laws_szOrdinalTermS_l16] at h) (fun n v h I' hne hI' => n_laws_szOrdinalTermS_b16_ok hrf_n_laws_szOrdinal hrf_n_laws_szOrdinalTermS hrf_n_laws_szOrdinalTerm  (k16 := n_laws_szOrdinalTermS_l16 rf_n_laws_szOrdinal rf_n_laws_szOrdinalTermS rf_n_laws_szOrdinalTerm  n) (fun a left_k16_0 i_k16_1 h => hI' (a, left_k16_0, i_k16_1) h) h) (fun I' hne => kq_congr fun i hi => hne i (notIn_ne (by rfl) i hi)) n (a, left_k16_0, i_k16_1) h
def n_laws_szOrdinalTermS_B (rf_n_laws_szOrdinal : List T_rI → Int → Option Int) (rf_n_laws_szOrdinalTermS : List T_rI → Int → Option Int) (rf_n_laws_szOrdinalTerm : List T_rI → Int → Int → Option Int) (a : List T_rI) (left : Int) : Option Int :=
  (bif (decide ((wr (left - (a.length : Int))) < 0)) then
    some (-1)
  else
    n_laws_szOrdinalTermS_l16 rf_n_laws_szOrdinal rf_n_laws_szOrdinalTermS rf_n_laws_szOrdinalTerm fuel a (wr (left - (a.length : Int))) 0)
theorem n_laws_szOrdinalTermS_B_way {I : Nat → St → Prop} {rf_n_laws_szOrdinal : List T_rI → Int → Option Int} {rf_n_laws_szOrdinalTermS : List T_rI → Int → Option Int} {rf_n_laws_szOrdinalTerm : List T_rI → Int → Int → Option Int} (hrf_n_laws_szOrdinal : ∀ (a : List T_rI) (left : Int) (r : Int), rf_n_laws_szOrdinal a left = some r → Sound Tryd.prog F_laws_szOrdinal [.v (.ag [.sl false 2 (e_rI false a)]), .v (.val (.int .i64 left))] (.val (.int .i64 r)) [.v (.ag [.sl false 2 (e_rI false a)]), .v (.val (.int .i64 left))]) (hrf_n_laws_szOrdinalTermS : ∀ (a : List T_rI) (left : Int) (r : Int), rf_n_laws_szOrdinalTermS a left = some r → Sound Tryd.prog F_laws_szOrdinalTermS [.v (.sl false 2 (e_rI false a)), .v (.val (.int .i64 left))] (.val (.int .i64 r)) [.v (.sl false 2 (e_rI false a)), .v (.val (.int .i64 left))]) (hrf_n_laws_szOrdinalTerm : ∀ (a : List T_rI) (a2 : Int) (left : Int) (r : Int), rf_n_laws_szOrdinalTerm a a2 left = some r → Sound Tryd.prog F_laws_szOrdinalTerm [.v (.ag [.sl false 2 (e_rI false a), .val (.int .i64 a2)]), .v (.val (.int .i64 left))] (.val (.int .i64 r)) [.v (.ag [.sl false 2 (e_rI false a), .val (.int .i64 a2)]), .v (.val (.int .i64 left))]) {a : List T_rI} {left : Int} {r : Int} (h : n_laws_szOrdinalTermS_B rf_n_laws_szOrdinal rf_n_laws_szOrdinalTermS rf_n_laws_szOrdinalTerm a left = some r) : wpx Tryd.prog (FC.pn (fc_n_laws_szOrdinalTermS a left r)) c_laws_szOrdinalTermS_k0 (kq Tryd.prog (fc_n_laws_szOrdinalTermS a left r) I []) (([(0, .pu (.sl false 2 (e_rI false a))), (1, .pu (.val (.int .i64 left)))], []) : St).1 (([(0, .pu (.sl false 2 (e_rI false a))), (1, .pu (.val (.int .i64 left)))], []) : St).2 := by
  unfold n_laws_szOrdinalTermS_B at h
  refine bif_elim h (fun c1 h => ?_) (fun c1 h => ?_)
  · cases h
    exact wayR 200 [.len (len_ok k_rI false a), .br c1, .fin0] (by kernel_rfl)
  · exact way 200 [.len (len_ok k_rI false a), .br c1, .stop [] (T_n_laws_szOrdinalTermS_16 a (wr (left - (a.length : Int))) 0)] (n_laws_szOrdinalTermS_l16_ok hrf_n_laws_szOrdinal hrf_n_laws_szOrdinalTermS hrf_n_laws_szOrdinalTerm _ _ _ _ h) (by kernel_rfl)
theorem n_laws_szOrdinalTermS_B_ok {rf_n_laws_szOrdinal : List T_rI → Int → Option Int} {rf_n_laws_szOrdinalTermS : List T_rI → Int → Option Int} {rf_n_laws_szOrdinalTerm : List T_rI → Int → Int → Option Int} (hrf_n_laws_szOrdinal : ∀ (a : List T_rI) (left : Int) (r : Int), rf_n_laws_szOrdinal a left = some r → Sound Tryd.prog F_laws_szOrdinal [.v (.ag [.sl false 2 (e_rI false a)]), .v (.val (.int .i64 left))] (.val (.int .i64 r)) [.v (.ag [.sl false 2 (e_rI false a)]), .v (.val (.int .i64 left))]) (hrf_n_laws_szOrdinalTermS : ∀ (a : List T_rI) (left : Int) (r : Int), rf_n_laws_szOrdinalTermS a left = some r → Sound Tryd.prog F_laws_szOrdinalTermS [.v (.sl false 2 (e_rI false a)), .v (.val (.int .i64 left))] (.val (.int .i64 r)) [.v (.sl false 2 (e_rI false a)), .v (.val (.int .i64 left))]) (hrf_n_laws_szOrdinalTerm : ∀ (a : List T_rI) (a2 : Int) (left : Int) (r : Int), rf_n_laws_szOrdinalTerm a a2 left = some r → Sound Tryd.prog F_laws_szOrdinalTerm [.v (.ag [.sl false 2 (e_rI false a), .val (.int .i64 a2)]), .v (.val (.int .i64 left))] (.val (.int .i64 r)) [.v (.ag [.sl false 2 (e_rI false a), .val (.int .i64 a2)]), .v (.val (.int .i64 left))]) {a : List T_rI} {left : Int} {r : Int} (h : n_laws_szOrdinalTermS_B rf_n_laws_szOrdinal rf_n_laws_szOrdinalTermS rf_n_laws_szOrdinalTerm a left = some r) : Sound Tryd.prog F_laws_szOrdinalTermS [.v (.sl false 2 (e_rI false a)), .v (.val (.int .i64 left))] (.val (.int .i64 r)) [.v (.sl false 2 (e_rI false a)), .v (.val (.int .i64 left))] :=
  soundX hmix ok_laws_szOrdinalTermS (fc := (fc_n_laws_szOrdinalTermS a left r)) rfl (S₀ := []) rfl rfl (n_laws_szOrdinalTermS_B_way hrf_n_laws_szOrdinal hrf_n_laws_szOrdinalTermS hrf_n_laws_szOrdinalTerm h)
def fc_n_laws_szOrdinalTerm (a : List T_rI) (a2 : Int) (left : Int) (r : Int) : FC := ⟨[.v (.ag [.sl false 2 (e_rI false a), .val (.int .i64 a2)]), .v (.val (.int .i64 left))], [.tmp 4], .val (.int .i64 r), [.v (.ag [.sl false 2 (e_rI false a), .val (.int .i64 a2)]), .v (.val (.int .i64 left))]⟩
def n_laws_szOrdinalTerm_B (rf_n_laws_szOrdinal : List T_rI → Int → Option Int) (rf_n_laws_szOrdinalTermS : List T_rI → Int → Option Int) (rf_n_laws_szOrdinalTerm : List T_rI → Int → Int → Option Int) (a : List T_rI) (a2 : Int) (left : Int) : Option Int :=
  ((rf_n_laws_szOrdinal a left).bind fun (v8_0 : Int) =>
  (bif (decide (v8_0 < 0)) then
    some (-1)
  else
    some v8_0))
theorem n_laws_szOrdinalTerm_B_way {I : Nat → St → Prop} {rf_n_laws_szOrdinal : List T_rI → Int → Option Int} {rf_n_laws_szOrdinalTermS : List T_rI → Int → Option Int} {rf_n_laws_szOrdinalTerm : List T_rI → Int → Int → Option Int} (hrf_n_laws_szOrdinal : ∀ (a : List T_rI) (left : Int) (r : Int), rf_n_laws_szOrdinal a left = some r → Sound Tryd.prog F_laws_szOrdinal [.v (.ag [.sl false 2 (e_rI false a)]), .v (.val (.int .i64 left))] (.val (.int .i64 r)) [.v (.ag [.sl false 2 (e_rI false a)]), .v (.val (.int .i64 left))]) (hrf_n_laws_szOrdinalTermS : ∀ (a : List T_rI) (left : Int) (r : Int), rf_n_laws_szOrdinalTermS a left = some r → Sound Tryd.prog F_laws_szOrdinalTermS [.v (.sl false 2 (e_rI false a)), .v (.val (.int .i64 left))] (.val (.int .i64 r)) [.v (.sl false 2 (e_rI false a)), .v (.val (.int .i64 left))]) (hrf_n_laws_szOrdinalTerm : ∀ (a : List T_rI) (a2 : Int) (left : Int) (r : Int), rf_n_laws_szOrdinalTerm a a2 left = some r → Sound Tryd.prog F_laws_szOrdinalTerm [.v (.ag [.sl false 2 (e_rI false a), .val (.int .i64 a2)]), .v (.val (.int .i64 left))] (.val (.int .i64 r)) [.v (.ag [.sl false 2 (e_rI false a), .val (.int .i64 a2)]), .v (.val (.int .i64 left))]) {a : List T_rI} {a2 : Int} {left : Int} {r : Int} (h : n_laws_szOrdinalTerm_B rf_n_laws_szOrdinal rf_n_laws_szOrdinalTermS rf_n_laws_szOrdinalTerm a a2 left = some r) : wpx Tryd.prog (FC.pn (fc_n_laws_szOrdinalTerm a a2 left r)) c_laws_szOrdinalTerm_k0 (kq Tryd.prog (fc_n_laws_szOrdinalTerm a a2 left r) I []) (([(0, .ag [.pu (.sl false 2 (e_rI false a)), .pu (.val (.int .i64 a2))]), (1, .pu (.val (.int .i64 left)))], []) : St).1 (([(0, .ag [.pu (.sl false 2 (e_rI false a)), .pu (.val (.int .i64 a2))]), (1, .pu (.val (.int .i64 left)))], []) : St).2 := by
  unfold n_laws_szOrdinalTerm_B at h
  refine bind_elim h (fun v8_0 c1 h => ?_)
  refine bif_elim h (fun c2 h => ?_) (fun c2 h => ?_)
  · cases h
    exact wayR 200 [.call (hrf_n_laws_szOrdinal _ _ _ c1), .br c2, .fin0] (by kernel_rfl)
  · cases h
    exact wayR 200 [.call (hrf_n_laws_szOrdinal _ _ _ c1), .br c2, .fin0] (by kernel_rfl)
theorem n_laws_szOrdinalTerm_B_ok {rf_n_laws_szOrdinal : List T_rI → Int → Option Int} {rf_n_laws_szOrdinalTermS : List T_rI → Int → Option Int} {rf_n_laws_szOrdinalTerm : List T_rI → Int → Int → Option Int} (hrf_n_laws_szOrdinal : ∀ (a : List T_rI) (left : Int) (r : Int), rf_n_laws_szOrdinal a left = some r → Sound Tryd.prog F_laws_szOrdinal [.v (.ag [.sl false 2 (e_rI false a)]), .v (.val (.int .i64 left))] (.val (.int .i64 r)) [.v (.ag [.sl false 2 (e_rI false a)]), .v (.val (.int .i64 left))]) (hrf_n_laws_szOrdinalTermS : ∀ (a : List T_rI) (left : Int) (r : Int), rf_n_laws_szOrdinalTermS a left = some r → Sound Tryd.prog F_laws_szOrdinalTermS [.v (.sl false 2 (e_rI false a)), .v (.val (.int .i64 left))] (.val (.int .i64 r)) [.v (.sl false 2 (e_rI false a)), .v (.val (.int .i64 left))]) (hrf_n_laws_szOrdinalTerm : ∀ (a : List T_rI) (a2 : Int) (left : Int) (r : Int), rf_n_laws_szOrdinalTerm a a2 left = some r → Sound Tryd.prog F_laws_szOrdinalTerm [.v (.ag [.sl false 2 (e_rI false a), .val (.int .i64 a2)]), .v (.val (.int .i64 left))] (.val (.int .i64 r)) [.v (.ag [.sl false 2 (e_rI false a), .val (.int .i64 a2)]), .v (.val (.int .i64 left))]) {a : List T_rI} {a2 : Int} {left : Int} {r : Int} (h : n_laws_szOrdinalTerm_B rf_n_laws_szOrdinal rf_n_laws_szOrdinalTermS rf_n_laws_szOrdinalTerm a a2 left = some r) : Sound Tryd.prog F_laws_szOrdinalTerm [.v (.ag [.sl false 2 (e_rI false a), .val (.int .i64 a2)]), .v (.val (.int .i64 left))] (.val (.int .i64 r)) [.v (.ag [.sl false 2 (e_rI false a), .val (.int .i64 a2)]), .v (.val (.int .i64 left))] :=
  soundX hmix ok_laws_szOrdinalTerm (fc := (fc_n_laws_szOrdinalTerm a a2 left r)) rfl (S₀ := []) rfl rfl (n_laws_szOrdinalTerm_B_way hrf_n_laws_szOrdinal hrf_n_laws_szOrdinalTermS hrf_n_laws_szOrdinalTerm h)
def n_laws_szOrdinal_S : Nat → (List T_rI → Int → Option Int) × (List T_rI → Int → Option Int) × (List T_rI → Int → Int → Option Int)
  | 0 => (fun _ _ => none, fun _ _ => none, fun _ _ _ => none)
  | n + 1 => (n_laws_szOrdinal_B (n_laws_szOrdinal_S n).1 (n_laws_szOrdinal_S n).2.1 (n_laws_szOrdinal_S n).2.2, n_laws_szOrdinalTermS_B (n_laws_szOrdinal_S n).1 (n_laws_szOrdinal_S n).2.1 (n_laws_szOrdinal_S n).2.2, n_laws_szOrdinalTerm_B (n_laws_szOrdinal_S n).1 (n_laws_szOrdinal_S n).2.1 (n_laws_szOrdinal_S n).2.2)
def n_laws_szOrdinal_N (n : Nat) : List T_rI → Int → Option Int := (n_laws_szOrdinal_S n).1
def n_laws_szOrdinalTermS_N (n : Nat) : List T_rI → Int → Option Int := (n_laws_szOrdinal_S n).2.1
def n_laws_szOrdinalTerm_N (n : Nat) : List T_rI → Int → Int → Option Int := (n_laws_szOrdinal_S n).2.2
theorem n_laws_szOrdinal_N_succ (n : Nat) : n_laws_szOrdinal_N (n + 1) = n_laws_szOrdinal_B (n_laws_szOrdinal_N n) (n_laws_szOrdinalTermS_N n) (n_laws_szOrdinalTerm_N n) := rfl
theorem n_laws_szOrdinalTermS_N_succ (n : Nat) : n_laws_szOrdinalTermS_N (n + 1) = n_laws_szOrdinalTermS_B (n_laws_szOrdinal_N n) (n_laws_szOrdinalTermS_N n) (n_laws_szOrdinalTerm_N n) := rfl
theorem n_laws_szOrdinalTerm_N_succ (n : Nat) : n_laws_szOrdinalTerm_N (n + 1) = n_laws_szOrdinalTerm_B (n_laws_szOrdinal_N n) (n_laws_szOrdinalTermS_N n) (n_laws_szOrdinalTerm_N n) := rfl
theorem n_laws_szOrdinal_NN : ∀ n : Nat, (∀ (a : List T_rI) (left : Int) (r : Int), n_laws_szOrdinal_N n a left = some r → Sound Tryd.prog F_laws_szOrdinal [.v (.ag [.sl false 2 (e_rI false a)]), .v (.val (.int .i64 left))] (.val (.int .i64 r)) [.v (.ag [.sl false 2 (e_rI false a)]), .v (.val (.int .i64 left))]) ∧ (∀ (a : List T_rI) (left : Int) (r : Int), n_laws_szOrdinalTermS_N n a left = some r → Sound Tryd.prog F_laws_szOrdinalTermS [.v (.sl false 2 (e_rI false a)), .v (.val (.int .i64 left))] (.val (.int .i64 r)) [.v (.sl false 2 (e_rI false a)), .v (.val (.int .i64 left))]) ∧ (∀ (a : List T_rI) (a2 : Int) (left : Int) (r : Int), n_laws_szOrdinalTerm_N n a a2 left = some r → Sound Tryd.prog F_laws_szOrdinalTerm [.v (.ag [.sl false 2 (e_rI false a), .val (.int .i64 a2)]), .v (.val (.int .i64 left))] (.val (.int .i64 r)) [.v (.ag [.sl false 2 (e_rI false a), .val (.int .i64 a2)]), .v (.val (.int .i64 left))]) := by
  intro n
  induction n with
  | zero => refine ⟨?_, ?_, ?_⟩ <;> first | trivial | (intros; rename_i h; cases h)
  | succ n ih => exact ⟨fun _ _ r h => n_laws_szOrdinal_B_ok ih.1 ih.2.1 ih.2.2 h, fun _ _ r h => n_laws_szOrdinalTermS_B_ok ih.1 ih.2.1 ih.2.2 h, fun _ _ _ r h => n_laws_szOrdinalTerm_B_ok ih.1 ih.2.1 ih.2.2 h⟩
def n_laws_szOrdinal (a : List T_rI) (left : Int) : Option Int := n_laws_szOrdinal_N fuel a left
theorem n_laws_szOrdinal_ok {a : List T_rI} {left : Int} {r : Int} (h : n_laws_szOrdinal a left = some r) : Sound Tryd.prog F_laws_szOrdinal [.v (.ag [.sl false 2 (e_rI false a)]), .v (.val (.int .i64 left))] (.val (.int .i64 r)) [.v (.ag [.sl false 2 (e_rI false a)]), .v (.val (.int .i64 left))] := (n_laws_szOrdinal_NN fuel).1 a left r h
def n_laws_szOrdinalTermS (a : List T_rI) (left : Int) : Option Int := n_laws_szOrdinalTermS_N fuel a left
theorem n_laws_szOrdinalTermS_ok {a : List T_rI} {left : Int} {r : Int} (h : n_laws_szOrdinalTermS a left = some r) : Sound Tryd.prog F_laws_szOrdinalTermS [.v (.sl false 2 (e_rI false a)), .v (.val (.int .i64 left))] (.val (.int .i64 r)) [.v (.sl false 2 (e_rI false a)), .v (.val (.int .i64 left))] := (n_laws_szOrdinal_NN fuel).2.1 a left r h
def n_laws_szOrdinalTerm (a : List T_rI) (a2 : Int) (left : Int) : Option Int := n_laws_szOrdinalTerm_N fuel a a2 left
theorem n_laws_szOrdinalTerm_ok {a : List T_rI} {a2 : Int} {left : Int} {r : Int} (h : n_laws_szOrdinalTerm a a2 left = some r) : Sound Tryd.prog F_laws_szOrdinalTerm [.v (.ag [.sl false 2 (e_rI false a), .val (.int .i64 a2)]), .v (.val (.int .i64 left))] (.val (.int .i64 r)) [.v (.ag [.sl false 2 (e_rI false a), .val (.int .i64 a2)]), .v (.val (.int .i64 left))] := (n_laws_szOrdinal_NN fuel).2.2 a a2 left r h

abbrev c_laws_szRun_r0 : CC := .reg [
    ⟨(some 2), none, .box (.t 0)⟩,
    ⟨(some 4), none, .mv (.c (.int .i64 0))⟩]
abbrev c_laws_szRun_r1 : CC := .reg [
    ⟨(some 5), none, .fadr 1 (.t 2)⟩,
    ⟨(some 6), none, .load 1 true (.t 5)⟩,
    ⟨(some 7), none, .mv (.t 1)⟩,
    ⟨(some 8), none, .call true (.f 93) [(.t 6), (.t 7)]⟩,
    ⟨(some 1), none, .mv (.t 8)⟩]
abbrev c_laws_szRun_r2 : CC := .reg [
    ⟨(some 9), none, .mv (.t 1)⟩,
    ⟨(some 10), none, .bin .lss (.t 9) (.c (.int .i64 0))⟩]
abbrev c_laws_szRun_r3 : CC := .reg [
    ⟨(some 4), none, .mv (.c (.int .i64 (-1)))⟩]
abbrev c_laws_szRun_k7 : CC := (.cond (.t 10) (.seq c_laws_szRun_r3 .ret) .skip)
abbrev c_laws_szRun_r4 : CC := .reg [
    ⟨(some 11), none, .mv (.t 1)⟩,
    ⟨(some 4), none, .mv (.t 11)⟩]
abbrev c_laws_szRun_k12 : CC := (.seq c_laws_szRun_r4 .ret)
abbrev c_laws_szRun_k4 : CC := (.seq (.seq c_laws_szRun_r2 c_laws_szRun_k7) c_laws_szRun_k12)
abbrev c_laws_szRun_k2 : CC := (.seq c_laws_szRun_r1 c_laws_szRun_k4)
abbrev c_laws_szRun_k0 : CC := (.seq c_laws_szRun_r0 c_laws_szRun_k2)
abbrev c_laws_szRun : CF := ⟨12, [.tmp 4], c_laws_szRun_k0⟩
abbrev F_laws_szRun : Nat := 55
theorem ok_laws_szRun : compileF Tryd.prog 55 = some c_laws_szRun := by kernel_rfl
def fc_n_laws_szRun (a : Bool) (a2 : List T_rI) (left : Int) (r : Int) : FC := ⟨[.v (.ag [.val (.bool a), .sl false 2 (e_rI false a2)]), .v (.val (.int .i64 left))], [.tmp 4], .val (.int .i64 r), [.v (.ag [.val (.bool a), .sl false 2 (e_rI false a2)]), .v (.val (.int .i64 left))]⟩
def n_laws_szRun  (a : Bool) (a2 : List T_rI) (left : Int) : Option Int :=
  ((n_laws_szOrdinal a2 left).bind fun (v8_0 : Int) =>
  (bif (decide (v8_0 < 0)) then
    some (-1)
  else
    some v8_0))
theorem n_laws_szRun_way {I : Nat → St → Prop}   {a : Bool} {a2 : List T_rI} {left : Int} {r : Int} (h : n_laws_szRun  a a2 left = some r) : wpx Tryd.prog (FC.pn (fc_n_laws_szRun a a2 left r)) c_laws_szRun_k0 (kq Tryd.prog (fc_n_laws_szRun a a2 left r) I []) (([(0, .ag [.pu (.val (.bool a)), .pu (.sl false 2 (e_rI false a2))]), (1, .pu (.val (.int .i64 left)))], []) : St).1 (([(0, .ag [.pu (.val (.bool a)), .pu (.sl false 2 (e_rI false a2))]), (1, .pu (.val (.int .i64 left)))], []) : St).2 := by
  unfold n_laws_szRun at h
  refine bind_elim h (fun v8_0 c1 h => ?_)
  refine bif_elim h (fun c2 h => ?_) (fun c2 h => ?_)
  · cases h
    exact wayR 200 [.call (n_laws_szOrdinal_ok c1), .br c2, .fin0] (by kernel_rfl)
  · cases h
    exact wayR 200 [.call (n_laws_szOrdinal_ok c1), .br c2, .fin0] (by kernel_rfl)
theorem n_laws_szRun_ok   {a : Bool} {a2 : List T_rI} {left : Int} {r : Int} (h : n_laws_szRun  a a2 left = some r) : Sound Tryd.prog F_laws_szRun [.v (.ag [.val (.bool a), .sl false 2 (e_rI false a2)]), .v (.val (.int .i64 left))] (.val (.int .i64 r)) [.v (.ag [.val (.bool a), .sl false 2 (e_rI false a2)]), .v (.val (.int .i64 left))] :=
  soundX hmix ok_laws_szRun (fc := (fc_n_laws_szRun a a2 left r)) rfl (S₀ := []) rfl rfl (n_laws_szRun_way  h)

abbrev c_laws_szRunS_r0 : CC := .reg [
    ⟨(some 4), none, .mv (.c (.int .i64 0))⟩]
abbrev c_laws_szRunS_r1 : CC := .reg [
    ⟨(some 6), none, .mv (.t 1)⟩,
    ⟨(some 7), none, .mv (.t 0)⟩,
    ⟨(some 8), none, .len false (.t 7)⟩,
    ⟨(some 9), none, .bin .sub (.t 6) (.t 8)⟩,
    ⟨(some 1), none, .mv (.t 9)⟩]
abbrev c_laws_szRunS_r2 : CC := .reg [
    ⟨(some 10), none, .mv (.t 1)⟩,
    ⟨(some 11), none, .bin .lss (.t 10) (.c (.int .i64 0))⟩]
abbrev c_laws_szRunS_r3 : CC := .reg [
    ⟨(some 4), none, .mv (.c (.int .i64 (-1)))⟩]
abbrev c_laws_szRunS_k7 : CC := (.cond (.t 11) (.seq c_laws_szRunS_r3 .ret) .skip)
abbrev c_laws_szRunS_r4 : CC := .reg [
    ⟨(some 5), none, .mv (.c (.int .i64 0))⟩]
abbrev c_laws_szRunS_r5 : CC := .reg [
    ⟨(some 12), none, .mv (.t 5)⟩,
    ⟨(some 13), none, .mv (.t 0)⟩,
    ⟨(some 14), none, .len false (.t 13)⟩,
    ⟨(some 15), none, .bin .lss (.t 12) (.t 14)⟩]
abbrev c_laws_szRunS_k20 : CC := (.cond (.t 15) .skip (.exit 0))
abbrev c_laws_szRunS_r7 : CC := .reg [
    ⟨(some 18), none, .mv (.t 0)⟩,
    ⟨(some 19), none, .mv (.t 5)⟩,
    ⟨(some 20), none, .iadr 2 (.t 18) (.t 19)⟩,
    ⟨(some 21), none, .load 2 true (.t 20)⟩,
    ⟨(some 22), none, .mv (.t 1)⟩,
    ⟨(some 23), none, .call true (.f 55) [(.t 21), (.t 22)]⟩,
    ⟨(some 1), none, .mv (.t 23)⟩]
abbrev c_laws_szRunS_r8 : CC := .reg [
    ⟨(some 24), none, .mv (.t 1)⟩,
    ⟨(some 25), none, .bin .lss (.t 24) (.c (.int .i64 0))⟩]
abbrev c_laws_szRunS_r9 : CC := .reg [
    ⟨(some 4), none, .mv (.c (.int .i64 (-1)))⟩]
abbrev c_laws_szRunS_k29 : CC := (.cond (.t 25) (.seq c_laws_szRunS_r9 .ret) .skip)
abbrev c_laws_szRunS_k27 : CC := (.seq c_laws_szRunS_r8 c_laws_szRunS_k29)
abbrev c_laws_szRunS_r6 : CC := .reg [
    ⟨(some 16), none, .mv (.t 5)⟩,
    ⟨(some 17), none, .bin .add (.t 16) (.c (.int .i64 1))⟩,
    ⟨(some 5), none, .mv (.t 17)⟩]
abbrev c_laws_szRunS_k23 : CC := (.seq (.block 1 (.seq c_laws_szRunS_r7 c_laws_szRunS_k27)) c_laws_szRunS_r6)
abbrev c_laws_szRunS_k17 : CC := (.seq (.seq c_laws_szRunS_r5 c_laws_szRunS_k20) c_laws_szRunS_k23)
abbrev c_laws_szRunS_k15 : CC := (.block 0 (.loop c_laws_szRunS_k17))
abbrev c_laws_szRunS_r10 : CC := .reg [
    ⟨(some 26), none, .mv (.t 1)⟩,
    ⟨(some 4), none, .mv (.t 26)⟩]
abbrev c_laws_szRunS_k35 : CC := (.seq c_laws_szRunS_r10 .ret)
abbrev c_laws_szRunS_k12 : CC := (.seq (.seq c_laws_szRunS_r4 c_laws_szRunS_k15) c_laws_szRunS_k35)
abbrev c_laws_szRunS_k4 : CC := (.seq (.seq c_laws_szRunS_r2 c_laws_szRunS_k7) c_laws_szRunS_k12)
abbrev c_laws_szRunS_k2 : CC := (.seq c_laws_szRunS_r1 c_laws_szRunS_k4)
abbrev c_laws_szRunS_k0 : CC := (.seq c_laws_szRunS_r0 c_laws_szRunS_k2)
abbrev c_laws_szRunS : CF := ⟨27, [.tmp 4], c_laws_szRunS_k0⟩
abbrev F_laws_szRunS : Nat := 30
theorem ok_laws_szRunS : compileF Tryd.prog 30 = some c_laws_szRunS := by kernel_rfl
def fc_n_laws_szRunS (a : List (Bool × List T_rI)) (left : Int) (r : Int) : FC := ⟨[.v (.sl false 2 (e_BLrIz false a)), .v (.val (.int .i64 left))], [.tmp 4], .val (.int .i64 r), [.v (.sl false 2 (e_BLrIz false a)), .v (.val (.int .i64 left))]⟩
def T_n_laws_szRunS_16 (a : List (Bool × List T_rI)) (left_k16_0 : Int) (i_k16_1 : Int) : St := ([(0, .pu (.sl false 2 (e_BLrIz false a))), (1, .pu (.val (.int .i64 left_k16_0))), (5, .pu (.val (.int .i64 i_k16_1)))], [])
def n_laws_szRunS_b16   (k16 : (List (Bool × List T_rI)) → Int → Int → Option Int) (a : List (Bool × List T_rI)) (left_k16_0 : Int) (i_k16_1 : Int) : Option Int :=
  (bif (decide (i_k16_1 < (a.length : Int))) then
    ((idx a i_k16_1).bind fun (v20_16 : Bool × List T_rI) =>
    ((n_laws_szRun v20_16.1 v20_16.2 left_k16_0).bind fun (v23_16 : Int) =>
    (bif (decide (v23_16 < 0)) then
      some (-1)
    else
      k16 a v23_16 (wr (i_k16_1 + 1)))))
  else
    some left_k16_0)
def n_laws_szRunS_l16   : Nat → (List (Bool × List T_rI)) → Int → Int → Option Int
  | 0, _, _, _ => none
  | n + 1, a, left_k16_0, i_k16_1 => n_laws_szRunS_b16   (n_laws_szRunS_l16   n) a left_k16_0 i_k16_1
theorem n_laws_szRunS_b16_ok {I : Nat → St → Prop}    {a_0 : List (Bool × List T_rI)} {left : Int} {r : Int}  {k16 : (List (Bool × List T_rI)) → Int → Int → Option Int} (hI16 : ∀ (a : List (Bool × List T_rI)) (left_k16_0 : Int) (i_k16_1 : Int), k16 a left_k16_0 i_k16_1 = some r → I 1 (T_n_laws_szRunS_16 a left_k16_0 i_k16_1)) {a : List (Bool × List T_rI)} {left_k16_0 : Int} {i_k16_1 : Int} (h : n_laws_szRunS_b16   k16 a left_k16_0 i_k16_1 = some r) : wpx Tryd.prog (FC.pn (fc_n_laws_szRunS a_0 left r)) c_laws_szRunS_k17 (kq Tryd.prog (fc_n_laws_szRunS a_0 left r) I [.lp 1, .blk 0, .sq c_laws_szRunS_k35]) (T_n_laws_szRunS_16 a left_k16_0 i_k16_1).1 (T_n_laws_szRunS_16 a left_k16_0 i_k16_1).2 := by
  unfold n_laws_szRunS_b16 at h
  refine bif_elim h (fun c1 h => ?_) (fun c1 h => ?_)
  · refine bind_elim h (fun v20_16 c2 h => ?_)
    refine bind_elim h (fun v23_16 c3 h => ?_)
    refine bif_elim h (fun c4 h => ?_) (fun c4 h => ?_)
    · cases h
      exact wayR 200 [.len (len_ok k_BLrIz false a), .br c1, .row (row_ok k_BLrIz (o := false) c2), .call (n_laws_szRun_ok c3), .br c4, .fin0] (by kernel_rfl)
    · exact wayB 200 [.len (len_ok k_BLrIz false a), .br c1, .row (row_ok k_BLrIz (o := false) c2), .call (n_laws_szRun_ok c3), .br c4, .stop [] (T_n_laws_szRunS_16 a v23_16 (wr (i_k16_1 + 1)))] 1 (hI16 _ _ _ h) (by kernel_rfl)
  · cases h
    exact wayR 200 [.len (len_ok k_BLrIz false a), .br c1, .fin0] (by kernel_rfl)
theorem n_laws_szRunS_l16_ok {I : Nat → St → Prop}    {a_0 : List (Bool × List T_rI)} {left : Int} {r : Int}  : ∀ (n : Nat) (a : List (Bool × List T_rI)) (left_k16_0 : Int) (i_k16_1 : Int), n_laws_szRunS_l16   n a left_k16_0 i_k16_1 = some r → wpx Tryd.prog (FC.pn (fc_n_laws_szRunS a_0 left r)) (.loop c_laws_szRunS_k17) (kq Tryd.prog (fc_n_laws_szRunS a_0 left r) I [.blk 0, .sq c_laws_szRunS_k35]) (T_n_laws_szRunS_16 a left_k16_0 i_k16_1).1 (T_n_laws_szRunS_16 a left_k16_0 i_k16_1).2 := by
  intro n a left_k16_0 i_k16_1 h
  exact loopN (fc := (fc_n_laws_szRunS a_0 left r)) (I := I) (j := 1) (V := (List (Bool × List T_rI)) × Int × Int) (fun n v => n_laws_szRunS_l16   n v.1 v.2.1 v.2.2) (fun v => T_n_laws_szRunS_16 v.1 v.2.1 v.2.2) r (fun v h => by simp [n_laws_szRunS_l16] at h) (fun n v h I' hne hI' => n_laws_szRunS_b16_ok   (k16 := n_laws_szRunS_l16   n) (fun a left_k16_0 i_k16_1 h => hI' (a, left_k16_0, i_k16_1) h) h) (fun I' hne => kq_congr fun i hi => hne i (notIn_ne (by rfl) i hi)) n (a, left_k16_0, i_k16_1) h
def n_laws_szRunS  (a : List (Bool × List T_rI)) (left : Int) : Option Int :=
  (bif (decide ((wr (left - (a.length : Int))) < 0)) then
    some (-1)
  else
    n_laws_szRunS_l16 fuel a (wr (left - (a.length : Int))) 0)
theorem n_laws_szRunS_way {I : Nat → St → Prop}   {a : List (Bool × List T_rI)} {left : Int} {r : Int} (h : n_laws_szRunS  a left = some r) : wpx Tryd.prog (FC.pn (fc_n_laws_szRunS a left r)) c_laws_szRunS_k0 (kq Tryd.prog (fc_n_laws_szRunS a left r) I []) (([(0, .pu (.sl false 2 (e_BLrIz false a))), (1, .pu (.val (.int .i64 left)))], []) : St).1 (([(0, .pu (.sl false 2 (e_BLrIz false a))), (1, .pu (.val (.int .i64 left)))], []) : St).2 := by
  unfold n_laws_szRunS at h
  refine bif_elim h (fun c1 h => ?_) (fun c1 h => ?_)
  · cases h
    exact wayR 200 [.len (len_ok k_BLrIz false a), .br c1, .fin0] (by kernel_rfl)
  · exact way 200 [.len (len_ok k_BLrIz false a), .br c1, .stop [] (T_n_laws_szRunS_16 a (wr (left - (a.length : Int))) 0)] (n_laws_szRunS_l16_ok _ _ _ _ h) (by kernel_rfl)
theorem n_laws_szRunS_ok   {a : List (Bool × List T_rI)} {left : Int} {r : Int} (h : n_laws_szRunS  a left = some r) : Sound Tryd.prog F_laws_szRunS [.v (.sl false 2 (e_BLrIz false a)), .v (.val (.int .i64 left))] (.val (.int .i64 r)) [.v (.sl false 2 (e_BLrIz false a)), .v (.val (.int .i64 left))] :=
  soundX hmix ok_laws_szRunS (fc := (fc_n_laws_szRunS a left r)) rfl (S₀ := []) rfl rfl (n_laws_szRunS_way  h)

abbrev c_laws_szWord_r0 : CC := .reg [
    ⟨(some 2), none, .box (.t 0)⟩,
    ⟨(some 4), none, .mv (.c (.int .i64 0))⟩]
abbrev c_laws_szWord_r1 : CC := .reg [
    ⟨(some 5), none, .fadr 0 (.t 2)⟩,
    ⟨(some 6), none, .load 1 false (.t 5)⟩,
    ⟨(some 7), none, .mv (.t 1)⟩,
    ⟨(some 8), none, .call true (.f 30) [(.t 6), (.t 7)]⟩,
    ⟨(some 1), none, .mv (.t 8)⟩]
abbrev c_laws_szWord_r2 : CC := .reg [
    ⟨(some 9), none, .mv (.t 1)⟩,
    ⟨(some 10), none, .bin .lss (.t 9) (.c (.int .i64 0))⟩]
abbrev c_laws_szWord_r3 : CC := .reg [
    ⟨(some 4), none, .mv (.c (.int .i64 (-1)))⟩]
abbrev c_laws_szWord_k7 : CC := (.cond (.t 10) (.seq c_laws_szWord_r3 .ret) .skip)
abbrev c_laws_szWord_r4 : CC := .reg [
    ⟨(some 11), none, .mv (.t 1)⟩,
    ⟨(some 4), none, .mv (.t 11)⟩]
abbrev c_laws_szWord_k12 : CC := (.seq c_laws_szWord_r4 .ret)
abbrev c_laws_szWord_k4 : CC := (.seq (.seq c_laws_szWord_r2 c_laws_szWord_k7) c_laws_szWord_k12)
abbrev c_laws_szWord_k2 : CC := (.seq c_laws_szWord_r1 c_laws_szWord_k4)
abbrev c_laws_szWord_k0 : CC := (.seq c_laws_szWord_r0 c_laws_szWord_k2)
abbrev c_laws_szWord : CF := ⟨12, [.tmp 4], c_laws_szWord_k0⟩
abbrev F_laws_szWord : Nat := 11
theorem ok_laws_szWord : compileF Tryd.prog 11 = some c_laws_szWord := by kernel_rfl
def fc_n_laws_szWord (a : List (Bool × List T_rI)) (left : Int) (r : Int) : FC := ⟨[.v (.ag [.sl false 2 (e_BLrIz false a)]), .v (.val (.int .i64 left))], [.tmp 4], .val (.int .i64 r), [.v (.ag [.sl false 2 (e_BLrIz false a)]), .v (.val (.int .i64 left))]⟩
def n_laws_szWord  (a : List (Bool × List T_rI)) (left : Int) : Option Int :=
  ((n_laws_szRunS a left).bind fun (v8_0 : Int) =>
  (bif (decide (v8_0 < 0)) then
    some (-1)
  else
    some v8_0))
theorem n_laws_szWord_way {I : Nat → St → Prop}   {a : List (Bool × List T_rI)} {left : Int} {r : Int} (h : n_laws_szWord  a left = some r) : wpx Tryd.prog (FC.pn (fc_n_laws_szWord a left r)) c_laws_szWord_k0 (kq Tryd.prog (fc_n_laws_szWord a left r) I []) (([(0, .ag [.pu (.sl false 2 (e_BLrIz false a))]), (1, .pu (.val (.int .i64 left)))], []) : St).1 (([(0, .ag [.pu (.sl false 2 (e_BLrIz false a))]), (1, .pu (.val (.int .i64 left)))], []) : St).2 := by
  unfold n_laws_szWord at h
  refine bind_elim h (fun v8_0 c1 h => ?_)
  refine bif_elim h (fun c2 h => ?_) (fun c2 h => ?_)
  · cases h
    exact wayR 200 [.call (n_laws_szRunS_ok c1), .br c2, .fin0] (by kernel_rfl)
  · cases h
    exact wayR 200 [.call (n_laws_szRunS_ok c1), .br c2, .fin0] (by kernel_rfl)
theorem n_laws_szWord_ok   {a : List (Bool × List T_rI)} {left : Int} {r : Int} (h : n_laws_szWord  a left = some r) : Sound Tryd.prog F_laws_szWord [.v (.ag [.sl false 2 (e_BLrIz false a)]), .v (.val (.int .i64 left))] (.val (.int .i64 r)) [.v (.ag [.sl false 2 (e_BLrIz false a)]), .v (.val (.int .i64 left))] :=
  soundX hmix ok_laws_szWord (fc := (fc_n_laws_szWord a left r)) rfl (S₀ := []) rfl rfl (n_laws_szWord_way  h)

abbrev c_laws_toOrdinal_r0 : CC := .reg [
    ⟨(some 1), none, .box (.t 0)⟩,
    ⟨(some 2), none, .alloc [.slice none 0 0]⟩]
abbrev c_laws_toOrdinal_r1 : CC := .reg [
    ⟨(some 3), none, .alloc [.slice none 0 0]⟩]
abbrev c_laws_toOrdinal_r2 : CC := .reg [
    ⟨(some 4), none, .fadr 0 (.t 1)⟩,
    ⟨(some 5), none, .load 1 false (.t 4)⟩,
    ⟨(some 6), none, .call false (.f 121) [(.t 5)]⟩,
    ⟨(some 7), none, .fadr 0 (.t 3)⟩,
    ⟨none, none, .store 1 (.t 7) (.t 6)⟩]
abbrev c_laws_toOrdinal_r3 : CC := .reg [
    ⟨(some 8), none, .load 1 true (.t 3)⟩,
    ⟨none, none, .store 1 (.t 2) (.t 8)⟩]
abbrev c_laws_toOrdinal_k6 : CC := (.seq c_laws_toOrdinal_r3 .ret)
abbrev c_laws_toOrdinal_k4 : CC := (.seq c_laws_toOrdinal_r2 c_laws_toOrdinal_k6)
abbrev c_laws_toOrdinal_k2 : CC := (.seq c_laws_toOrdinal_r1 c_laws_toOrdinal_k4)
abbrev c_laws_toOrdinal_k0 : CC := (.seq c_laws_toOrdinal_r0 c_laws_toOrdinal_k2)
abbrev c_laws_toOrdinal : CF := ⟨9, [.cell 2 1 true], c_laws_toOrdinal_k0⟩
abbrev F_laws_toOrdinal : Nat := 99
theorem ok_laws_toOrdinal : compileF Tryd.prog 99 = some c_laws_toOrdinal := by kernel_rfl
abbrev c_laws_toOrdinalTermS_r0 : CC := .reg [
    ⟨(some 2), none, .mv (.c (.slice none 0 0))⟩]
abbrev c_laws_toOrdinalTermS_r1 : CC := .reg [
    ⟨(some 5), none, .mv (.t 0)⟩,
    ⟨(some 6), none, .len false (.t 5)⟩,
    ⟨(some 7), none, .mkSl 2 32 [.slice none 0 0, .int .i64 0] (.t 6) (.t 6)⟩,
    ⟨(some 3), none, .mv (.t 7)⟩]
abbrev c_laws_toOrdinalTermS_r2 : CC := .reg [
    ⟨(some 4), none, .mv (.c (.int .i64 0))⟩]
abbrev c_laws_toOrdinalTermS_r3 : CC := .reg [
    ⟨(some 8), none, .mv (.t 4)⟩,
    ⟨(some 9), none, .mv (.t 0)⟩,
    ⟨(some 10), none, .len false (.t 9)⟩,
    ⟨(some 11), none, .bin .lss (.t 8) (.t 10)⟩]
abbrev c_laws_toOrdinalTermS_k12 : CC := (.cond (.t 11) .skip (.exit 0))
abbrev c_laws_toOrdinalTermS_r5 : CC := .reg [
    ⟨(some 14), none, .mv (.t 3)⟩,
    ⟨(some 15), none, .mv (.t 4)⟩,
    ⟨(some 16), none, .mv (.t 0)⟩,
    ⟨(some 17), none, .mv (.t 4)⟩,
    ⟨(some 18), none, .iadr 2 (.t 16) (.t 17)⟩,
    ⟨(some 19), none, .load 2 true (.t 18)⟩,
    ⟨(some 20), none, .call false (.f 141) [(.t 19)]⟩,
    ⟨(some 21), none, .iadr 2 (.t 14) (.t 15)⟩,
    ⟨none, none, .store 2 (.t 21) (.t 20)⟩]
abbrev c_laws_toOrdinalTermS_r4 : CC := .reg [
    ⟨(some 12), none, .mv (.t 4)⟩,
    ⟨(some 13), none, .bin .add (.t 12) (.c (.int .i64 1))⟩,
    ⟨(some 4), none, .mv (.t 13)⟩]
abbrev c_laws_toOrdinalTermS_k15 : CC := (.seq (.block 1 c_laws_toOrdinalTermS_r5) c_laws_toOrdinalTermS_r4)
abbrev c_laws_toOrdinalTermS_k9 : CC := (.seq (.seq c_laws_toOrdinalTermS_r3 c_laws_toOrdinalTermS_k12) c_laws_toOrdinalTermS_k15)
abbrev c_laws_toOrdinalTermS_k7 : CC := (.block 0 (.loop c_laws_toOrdinalTermS_k9))
abbrev c_laws_toOrdinalTermS_r6 : CC := .reg [
    ⟨(some 22), none, .mv (.t 3)⟩,
    ⟨(some 2), none, .mv (.t 22)⟩]
abbrev c_laws_toOrdinalTermS_k19 : CC := (.seq c_laws_toOrdinalTermS_r6 .ret)
abbrev c_laws_toOrdinalTermS_k4 : CC := (.seq (.seq c_laws_toOrdinalTermS_r2 c_laws_toOrdinalTermS_k7) c_laws_toOrdinalTermS_k19)
abbrev c_laws_toOrdinalTermS_k2 : CC := (.seq c_laws_toOrdinalTermS_r1 c_laws_toOrdinalTermS_k4)
abbrev c_laws_toOrdinalTermS_k0 : CC := (.seq c_laws_toOrdinalTermS_r0 c_laws_toOrdinalTermS_k2)
abbrev c_laws_toOrdinalTermS : CF := ⟨23, [.tmp 2], c_laws_toOrdinalTermS_k0⟩
abbrev F_laws_toOrdinalTermS : Nat := 121
theorem ok_laws_toOrdinalTermS : compileF Tryd.prog 121 = some c_laws_toOrdinalTermS := by kernel_rfl
abbrev c_laws_toOrdinalTerm_r0 : CC := .reg [
    ⟨(some 1), none, .box (.t 0)⟩,
    ⟨(some 2), none, .alloc [.slice none 0 0, .int .i64 0]⟩]
abbrev c_laws_toOrdinalTerm_r1 : CC := .reg [
    ⟨(some 3), none, .alloc [.slice none 0 0, .int .i64 0]⟩]
abbrev c_laws_toOrdinalTerm_r2 : CC := .reg [
    ⟨(some 4), none, .fadr 0 (.t 1)⟩,
    ⟨(some 5), none, .load 1 true (.t 4)⟩,
    ⟨(some 6), none, .call false (.f 99) [(.t 5)]⟩,
    ⟨(some 7), none, .fadr 0 (.t 3)⟩,
    ⟨none, none, .store 1 (.t 7) (.t 6)⟩]
abbrev c_laws_toOrdinalTerm_r3 : CC := .reg [
    ⟨(some 8), none, .fadr 1 (.t 1)⟩,
    ⟨(some 9), none, .load 1 false (.t 8)⟩,
    ⟨(some 10), none, .fadr 1 (.t 3)⟩,
    ⟨none, none, .store 1 (.t 10) (.t 9)⟩]
abbrev c_laws_toOrdinalTerm_r4 : CC := .reg [
    ⟨(some 11), none, .load 2 true (.t 3)⟩,
    ⟨none, none, .store 2 (.t 2) (.t 11)⟩]
abbrev c_laws_toOrdinalTerm_k8 : CC := (.seq c_laws_toOrdinalTerm_r4 .ret)
abbrev c_laws_toOrdinalTerm_k6 : CC := (.seq c_laws_toOrdinalTerm_r3 c_laws_toOrdinalTerm_k8)
abbrev c_laws_toOrdinalTerm_k4 : CC := (.seq c_laws_toOrdinalTerm_r2 c_laws_toOrdinalTerm_k6)
abbrev c_laws_toOrdinalTerm_k2 : CC := (.seq c_laws_toOrdinalTerm_r1 c_laws_toOrdinalTerm_k4)
abbrev c_laws_toOrdinalTerm_k0 : CC := (.seq c_laws_toOrdinalTerm_r0 c_laws_toOrdinalTerm_k2)
abbrev c_laws_toOrdinalTerm : CF := ⟨12, [.cell 2 2 true], c_laws_toOrdinalTerm_k0⟩
abbrev F_laws_toOrdinalTerm : Nat := 141
theorem ok_laws_toOrdinalTerm : compileF Tryd.prog 141 = some c_laws_toOrdinalTerm := by kernel_rfl
def fc_n_laws_toOrdinal (a : List T_rI) (r : List T_rI) : FC := ⟨[.v (.ag [.sl false 2 (e_rI false a)])], [.cell 2 1 true], .ag [.sl true 2 (e_rI false r)], [.v (.ag [.sl false 2 (e_rI false a)])]⟩
def n_laws_toOrdinal_B (rf_n_laws_toOrdinal : List T_rI → Option (List T_rI)) (rf_n_laws_toOrdinalTermS : List T_rI → Option (List T_rI)) (rf_n_laws_toOrdinalTerm : List T_rI → Int → Option (List T_rI × Int)) (a : List T_rI) : Option (List T_rI) :=
  ((rf_n_laws_toOrdinalTermS a).bind fun (v6_0 : List T_rI) =>
  some v6_0)
theorem n_laws_toOrdinal_B_way {I : Nat → St → Prop} {rf_n_laws_toOrdinal : List T_rI → Option (List T_rI)} {rf_n_laws_toOrdinalTermS : List T_rI → Option (List T_rI)} {rf_n_laws_toOrdinalTerm : List T_rI → Int → Option (List T_rI × Int)} (hrf_n_laws_toOrdinal : ∀ (a : List T_rI) (r : List T_rI), rf_n_laws_toOrdinal a = some r → Sound Tryd.prog F_laws_toOrdinal [.v (.ag [.sl false 2 (e_rI false a)])] (.ag [.sl true 2 (e_rI false r)]) [.v (.ag [.sl false 2 (e_rI false a)])]) (hrf_n_laws_toOrdinalTermS : ∀ (a : List T_rI) (r : List T_rI), rf_n_laws_toOrdinalTermS a = some r → Sound Tryd.prog F_laws_toOrdinalTermS [.v (.sl false 2 (e_rI false a))] (.sl true 2 (e_rI false r)) [.v (.sl false 2 (e_rI false a))]) (hrf_n_laws_toOrdinalTerm : ∀ (a : List T_rI) (a2 : Int) (r : List T_rI × Int), rf_n_laws_toOrdinalTerm a a2 = some r → Sound Tryd.prog F_laws_toOrdinalTerm [.v (.ag [.sl false 2 (e_rI false a), .val (.int .i64 a2)])] (.ag [.sl false 2 (e_rI false r.1), .val (.int .i64 r.2)]) [.v (.ag [.sl false 2 (e_rI false a), .val (.int .i64 a2)])]) {a : List T_rI} {r : List T_rI} (h : n_laws_toOrdinal_B rf_n_laws_toOrdinal rf_n_laws_toOrdinalTermS rf_n_laws_toOrdinalTerm a = some r) : wpx Tryd.prog (FC.pn (fc_n_laws_toOrdinal a r)) c_laws_toOrdinal_k0 (kq Tryd.prog (fc_n_laws_toOrdinal a r) I []) (([(0, .ag [.pu (.sl false 2 (e_rI false a))])], []) : St).1 (([(0, .ag [.pu (.sl false 2 (e_rI false a))])], []) : St).2 := by
  unfold n_laws_toOrdinal_B at h
  refine bind_elim h (fun v6_0 c1 h => ?_)
  cases h
  exact wayR 200 [.call (hrf_n_laws_toOrdinalTermS _ _ c1), .fin0] (by kernel_rfl)
theorem n_laws_toOrdinal_B_ok {rf_n_laws_toOrdinal : List T_rI → Option (List T_rI)} {rf_n_laws_toOrdinalTermS : List T_rI → Option (List T_rI)} {rf_n_laws_toOrdinalTerm : List T_rI → Int → Option (List T_rI × Int)} (hrf_n_laws_toOrdinal : ∀ (a : List T_rI) (r : List T_rI), rf_n_laws_toOrdinal a = some r → Sound Tryd.prog F_laws_toOrdinal [.v (.ag [.sl false 2 (e_rI false a)])] (.ag [.sl true 2 (e_rI false r)]) [.v (.ag [.sl false 2 (e_rI false a)])]) (hrf_n_laws_toOrdinalTermS : ∀ (a : List T_rI) (r : List T_rI), rf_n_laws_toOrdinalTermS a = some r → Sound Tryd.prog F_laws_toOrdinalTermS [.v (.sl false 2 (e_rI false a))] (.sl true 2 (e_rI false r)) [.v (.sl false 2 (e_rI false a))]) (hrf_n_laws_toOrdinalTerm : ∀ (a : List T_rI) (a2 : Int) (r : List T_rI × Int), rf_n_laws_toOrdinalTerm a a2 = some r → Sound Tryd.prog F_laws_toOrdinalTerm [.v (.ag [.sl false 2 (e_rI false a), .val (.int .i64 a2)])] (.ag [.sl false 2 (e_rI false r.1), .val (.int .i64 r.2)]) [.v (.ag [.sl false 2 (e_rI false a), .val (.int .i64 a2)])]) {a : List T_rI} {r : List T_rI} (h : n_laws_toOrdinal_B rf_n_laws_toOrdinal rf_n_laws_toOrdinalTermS rf_n_laws_toOrdinalTerm a = some r) : Sound Tryd.prog F_laws_toOrdinal [.v (.ag [.sl false 2 (e_rI false a)])] (.ag [.sl true 2 (e_rI false r)]) [.v (.ag [.sl false 2 (e_rI false a)])] :=
  soundX hmix ok_laws_toOrdinal (fc := (fc_n_laws_toOrdinal a r)) rfl (S₀ := []) rfl rfl (n_laws_toOrdinal_B_way hrf_n_laws_toOrdinal hrf_n_laws_toOrdinalTermS hrf_n_laws_toOrdinalTerm h)
def fc_n_laws_toOrdinalTermS (a : List T_rI) (r : List T_rI) : FC := ⟨[.v (.sl false 2 (e_rI false a))], [.tmp 2], .sl true 2 (e_rI false r), [.v (.sl false 2 (e_rI false a))]⟩
def T_n_laws_toOrdinalTermS_8 (a : List T_rI) (i_k8_1 : Int) (out_k8_0 : List T_rI) : St := ([(0, .pu (.sl false 2 (e_rI false a))), (3, .so 500192 0 (e_rI false out_k8_0).length), (4, .pu (.val (.int .i64 i_k8_1)))], [(500192, .slc 0 (.sl true 2 (e_rI false out_k8_0)))])
def n_laws_toOrdinalTermS_b8 (rf_n_laws_toOrdinal : List T_rI → Option (List T_rI)) (rf_n_laws_toOrdinalTermS : List T_rI → Option (List T_rI)) (rf_n_laws_toOrdinalTerm : List T_rI → Int → Option (List T_rI × Int))  (k8 : List T_rI → Int → List T_rI → Option (List T_rI)) (a : List T_rI) (i_k8_1 : Int) (out_k8_0 : List T_rI) : Option (List T_rI) :=
  (bif (decide (i_k8_1 < (a.length : Int))) then
    ((idx a i_k8_1).bind fun (v18_8 : T_rI) =>
    ((rf_n_laws_toOrdinalTerm v18_8.c0 v18_8.c1).bind fun (v20_8 : List T_rI × Int) =>
    ((idx out_k8_0 i_k8_1).bind fun (v21_8 : T_rI) =>
    k8 a (wr (i_k8_1 + 1)) (out_k8_0.set (i_k8_1).toNat (T_rI.mk v20_8.1 v20_8.2)))))
  else
    some out_k8_0)
def n_laws_toOrdinalTermS_l8 (rf_n_laws_toOrdinal : List T_rI → Option (List T_rI)) (rf_n_laws_toOrdinalTermS : List T_rI → Option (List T_rI)) (rf_n_laws_toOrdinalTerm : List T_rI → Int → Option (List T_rI × Int))  : Nat → List T_rI → Int → List T_rI → Option (List T_rI)
  | 0, _, _, _ => none
  | n + 1, a, i_k8_1, out_k8_0 => n_laws_toOrdinalTermS_b8 rf_n_laws_toOrdinal rf_n_laws_toOrdinalTermS rf_n_laws_toOrdinalTerm  (n_laws_toOrdinalTermS_l8 rf_n_laws_toOrdinal rf_n_laws_toOrdinalTermS rf_n_laws_toOrdinalTerm  n) a i_k8_1 out_k8_0
theorem n_laws_toOrdinalTermS_b8_ok {I : Nat → St → Prop} {rf_n_laws_toOrdinal : List T_rI → Option (List T_rI)} {rf_n_laws_toOrdinalTermS : List T_rI → Option (List T_rI)} {rf_n_laws_toOrdinalTerm : List T_rI → Int → Option (List T_rI × Int)} (hrf_n_laws_toOrdinal : ∀ (a : List T_rI) (r : List T_rI), rf_n_laws_toOrdinal a = some r → Sound Tryd.prog F_laws_toOrdinal [.v (.ag [.sl false 2 (e_rI false a)])] (.ag [.sl true 2 (e_rI false r)]) [.v (.ag [.sl false 2 (e_rI false a)])]) (hrf_n_laws_toOrdinalTermS : ∀ (a : List T_rI) (r : List T_rI), rf_n_laws_toOrdinalTermS a = some r → Sound Tryd.prog F_laws_toOrdinalTermS [.v (.sl false 2 (e_rI false a))] (.sl true 2 (e_rI false r)) [.v (.sl false 2 (e_rI false a))]) (hrf_n_laws_toOrdinalTerm : ∀ (a : List T_rI) (a2 : Int) (r : List T_rI × Int), rf_n_laws_toOrdinalTerm a a2 = some r → Sound Tryd.prog F_laws_toOrdinalTerm [.v (.ag [.sl false 2 (e_rI false a), .val (.int .i64 a2)])] (.ag [.sl false 2 (e_rI false r.1), .val (.int .i64 r.2)]) [.v (.ag [.sl false 2 (e_rI false a), .val (.int .i64 a2)])])  {a_0 : List T_rI} {r : List T_rI}  {k8 : List T_rI → Int → List T_rI → Option (List T_rI)} (hI8 : ∀ (a : List T_rI) (i_k8_1 : Int) (out_k8_0 : List T_rI), k8 a i_k8_1 out_k8_0 = some r → I 1 (T_n_laws_toOrdinalTermS_8 a i_k8_1 out_k8_0)) {a : List T_rI} {i_k8_1 : Int} {out_k8_0 : List T_rI} (h : n_laws_toOrdinalTermS_b8 rf_n_laws_toOrdinal rf_n_laws_toOrdinalTermS rf_n_laws_toOrdinalTerm  k8 a i_k8_1 out_k8_0 = some r) : wpx Tryd.prog (FC.pn (fc_n_laws_toOrdinalTermS a_0 r)) c_laws_toOrdinalTermS_k9 (kq Tryd.prog (fc_n_laws_toOrdinalTermS a_0 r) I [.lp 1, .blk 0, .sq c_laws_toOrdinalTermS_k19]) (T_n_laws_toOrdinalTermS_8 a i_k8_1 out_k8_0).1 (T_n_laws_toOrdinalTermS_8 a i_k8_1 out_k8_0).2 := by
  unfold n_laws_toOrdinalTermS_b8 at h
  refine bif_elim h (fun c1 h => ?_) (fun c1 h => ?_)
  · refine bind_elim h (fun v18_8 c2 h => ?_)
    refine bind_elim h (fun v20_8 c3 h => ?_)
    refine bind_elim h (fun v21_8 c4 h => ?_)
    exact wayB 200 [.len (len_ok k_rI false a), .br c1, .row (row_ok k_rI (o := false) c2), .call (hrf_n_laws_toOrdinalTerm _ _ _ c3), .inb (inb_ok k_rI (o := false) c4), .eset (eset_ok k_rI (o := false) c4 (x' := (T_rI.mk v20_8.1 v20_8.2)) (j := 0) (m := 2) (ds := [.sl false 2 (e_rI false v20_8.1), .val (.int .i64 v20_8.2)]) rfl rfl), .gso 3 (set_len k_rI false out_k8_0 (i_k8_1).toNat (T_rI.mk v20_8.1 v20_8.2)), .gso 14 (set_len k_rI false out_k8_0 (i_k8_1).toNat (T_rI.mk v20_8.1 v20_8.2)), .stop [] (T_n_laws_toOrdinalTermS_8 a (wr (i_k8_1 + 1)) (out_k8_0.set (i_k8_1).toNat (T_rI.mk v20_8.1 v20_8.2)))] 1 (hI8 _ _ _ h) (by kernel_rfl)
  · cases h
    exact wayR 200 [.len (len_ok k_rI false a), .br c1, .fin0] (by kernel_rfl)
theorem n_laws_toOrdinalTermS_l8_ok {I : Nat → St → Prop} {rf_n_laws_toOrdinal : List T_rI → Option (List T_rI)} {rf_n_laws_toOrdinalTermS : List T_rI → Option (List T_rI)} {rf_n_laws_toOrdinalTerm : List T_rI → Int → Option (List T_rI × Int)} (hrf_n_laws_toOrdinal : ∀ (a : List T_rI) (r : List T_rI), rf_n_laws_toOrdinal a = some r → Sound Tryd.prog F_laws_toOrdinal [.v (.ag [.sl false 2 (e_rI false a)])] (.ag [.sl true 2 (e_rI false r)]) [.v (.ag [.sl false 2 (e_rI false a)])]) (hrf_n_laws_toOrdinalTermS : ∀ (a : List T_rI) (r : List T_rI), rf_n_laws_toOrdinalTermS a = some r → Sound Tryd.prog F_laws_toOrdinalTermS [.v (.sl false 2 (e_rI false a))] (.sl true 2 (e_rI false r)) [.v (.sl false 2 (e_rI false a))]) (hrf_n_laws_toOrdinalTerm : ∀ (a : List T_rI) (a2 : Int) (r : List T_rI × Int), rf_n_laws_toOrdinalTerm a a2 = some r → Sound Tryd.prog F_laws_toOrdinalTerm [.v (.ag [.sl false 2 (e_rI false a), .val (.int .i64 a2)])] (.ag [.sl false 2 (e_rI false r.1), .val (.int .i64 r.2)]) [.v (.ag [.sl false 2 (e_rI false a), .val (.int .i64 a2)])])  {a_0 : List T_rI} {r : List T_rI}  : ∀ (n : Nat) (a : List T_rI) (i_k8_1 : Int) (out_k8_0 : List T_rI), n_laws_toOrdinalTermS_l8 rf_n_laws_toOrdinal rf_n_laws_toOrdinalTermS rf_n_laws_toOrdinalTerm  n a i_k8_1 out_k8_0 = some r → wpx Tryd.prog (FC.pn (fc_n_laws_toOrdinalTermS a_0 r)) (.loop c_laws_toOrdinalTermS_k9) (kq Tryd.prog (fc_n_laws_toOrdinalTermS a_0 r) I [.blk 0, .sq c_laws_toOrdinalTermS_k19]) (T_n_laws_toOrdinalTermS_8 a i_k8_1 out_k8_0).1 (T_n_laws_toOrdinalTermS_8 a i_k8_1 out_k8_0).2 := by
  intro n a i_k8_1 out_k8_0 h
  exact loopN (fc := (fc_n_laws_toOrdinalTermS a_0 r)) (I := I) (j := 1) (V := List T_rI × Int × List T_rI) (fun n v => n_laws_toOrdinalTermS_l8 rf_n_laws_toOrdinal rf_n_laws_toOrdinalTermS rf_n_laws_toOrdinalTerm  n v.1 v.2.1 v.2.2) (fun v => T_n_laws_toOrdinalTermS_8 v.1 v.2.1 v.2.2) r (fun v h => by simp [n_laws_toOrdinalTermS_l8] at h) (fun n v h I' hne hI' => n_laws_toOrdinalTermS_b8_ok hrf_n_laws_toOrdinal hrf_n_laws_toOrdinalTermS hrf_n_laws_toOrdinalTerm  (k8 := n_laws_toOrdinalTermS_l8 rf_n_laws_toOrdinal rf_n_laws_toOrdinalTermS rf_n_laws_toOrdinalTerm  n) (fun a i_k8_1 out_k8_0 h => hI' (a, i_k8_1, out_k8_0) h) h) (fun I' hne => kq_congr fun i hi => hne i (notIn_ne (by rfl) i hi)) n (a, i_k8_1, out_k8_0) h
def n_laws_toOrdinalTermS_B (rf_n_laws_toOrdinal : List T_rI → Option (List T_rI)) (rf_n_laws_toOrdinalTermS : List T_rI → Option (List T_rI)) (rf_n_laws_toOrdinalTerm : List T_rI → Int → Option (List T_rI × Int)) (a : List T_rI) : Option (List T_rI) :=
  ((mkn 32 (a.length : Int) (T_rI.mk [] 0)).bind fun (v7_0 : List T_rI) =>
  n_laws_toOrdinalTermS_l8 rf_n_laws_toOrdinal rf_n_laws_toOrdinalTermS rf_n_laws_toOrdinalTerm fuel a 0 v7_0)
theorem n_laws_toOrdinalTermS_B_way {I : Nat → St → Prop} {rf_n_laws_toOrdinal : List T_rI → Option (List T_rI)} {rf_n_laws_toOrdinalTermS : List T_rI → Option (List T_rI)} {rf_n_laws_toOrdinalTerm : List T_rI → Int → Option (List T_rI × Int)} (hrf_n_laws_toOrdinal : ∀ (a : List T_rI) (r : List T_rI), rf_n_laws_toOrdinal a = some r → Sound Tryd.prog F_laws_toOrdinal [.v (.ag [.sl false 2 (e_rI false a)])] (.ag [.sl true 2 (e_rI false r)]) [.v (.ag [.sl false 2 (e_rI false a)])]) (hrf_n_laws_toOrdinalTermS : ∀ (a : List T_rI) (r : List T_rI), rf_n_laws_toOrdinalTermS a = some r → Sound Tryd.prog F_laws_toOrdinalTermS [.v (.sl false 2 (e_rI false a))] (.sl true 2 (e_rI false r)) [.v (.sl false 2 (e_rI false a))]) (hrf_n_laws_toOrdinalTerm : ∀ (a : List T_rI) (a2 : Int) (r : List T_rI × Int), rf_n_laws_toOrdinalTerm a a2 = some r → Sound Tryd.prog F_laws_toOrdinalTerm [.v (.ag [.sl false 2 (e_rI false a), .val (.int .i64 a2)])] (.ag [.sl false 2 (e_rI false r.1), .val (.int .i64 r.2)]) [.v (.ag [.sl false 2 (e_rI false a), .val (.int .i64 a2)])]) {a : List T_rI} {r : List T_rI} (h : n_laws_toOrdinalTermS_B rf_n_laws_toOrdinal rf_n_laws_toOrdinalTermS rf_n_laws_toOrdinalTerm a = some r) : wpx Tryd.prog (FC.pn (fc_n_laws_toOrdinalTermS a r)) c_laws_toOrdinalTermS_k0 (kq Tryd.prog (fc_n_laws_toOrdinalTermS a r) I []) (([(0, .pu (.sl false 2 (e_rI false a)))], []) : St).1 (([(0, .pu (.sl false 2 (e_rI false a)))], []) : St).2 := by
  unfold n_laws_toOrdinalTermS_B at h
  refine bind_elim h (fun v7_0 c1 h => ?_)
  exact way 200 [.len (len_ok k_rI false a), .mk (mkr_ok c1 [.val (.slice none 0 0), .val (.int .i64 0)]), .gle 7 (gle_mk k_rI c1 (zr := [.val (.slice none 0 0), .val (.int .i64 0)]) (DLes.c (DLe.nil _ _) (DLes.c (DLe.refl _) DLes.z))), .gso 3 (mk_len k_rI c1 [.val (.slice none 0 0), .val (.int .i64 0)]), .gso 7 (mk_len k_rI c1 [.val (.slice none 0 0), .val (.int .i64 0)]), .stop [(500192, 7)] (T_n_laws_toOrdinalTermS_8 a 0 v7_0)] (n_laws_toOrdinalTermS_l8_ok hrf_n_laws_toOrdinal hrf_n_laws_toOrdinalTermS hrf_n_laws_toOrdinalTerm _ _ _ _ h) (by kernel_rfl)
theorem n_laws_toOrdinalTermS_B_ok {rf_n_laws_toOrdinal : List T_rI → Option (List T_rI)} {rf_n_laws_toOrdinalTermS : List T_rI → Option (List T_rI)} {rf_n_laws_toOrdinalTerm : List T_rI → Int → Option (List T_rI × Int)} (hrf_n_laws_toOrdinal : ∀ (a : List T_rI) (r : List T_rI), rf_n_laws_toOrdinal a = some r → Sound Tryd.prog F_laws_toOrdinal [.v (.ag [.sl false 2 (e_rI false a)])] (.ag [.sl true 2 (e_rI false r)]) [.v (.ag [.sl false 2 (e_rI false a)])]) (hrf_n_laws_toOrdinalTermS : ∀ (a : List T_rI) (r : List T_rI), rf_n_laws_toOrdinalTermS a = some r → Sound Tryd.prog F_laws_toOrdinalTermS [.v (.sl false 2 (e_rI false a))] (.sl true 2 (e_rI false r)) [.v (.sl false 2 (e_rI false a))]) (hrf_n_laws_toOrdinalTerm : ∀ (a : List T_rI) (a2 : Int) (r : List T_rI × Int), rf_n_laws_toOrdinalTerm a a2 = some r → Sound Tryd.prog F_laws_toOrdinalTerm [.v (.ag [.sl false 2 (e_rI false a), .val (.int .i64 a2)])] (.ag [.sl false 2 (e_rI false r.1), .val (.int .i64 r.2)]) [.v (.ag [.sl false 2 (e_rI false a), .val (.int .i64 a2)])]) {a : List T_rI} {r : List T_rI} (h : n_laws_toOrdinalTermS_B rf_n_laws_toOrdinal rf_n_laws_toOrdinalTermS rf_n_laws_toOrdinalTerm a = some r) : Sound Tryd.prog F_laws_toOrdinalTermS [.v (.sl false 2 (e_rI false a))] (.sl true 2 (e_rI false r)) [.v (.sl false 2 (e_rI false a))] :=
  soundX hmix ok_laws_toOrdinalTermS (fc := (fc_n_laws_toOrdinalTermS a r)) rfl (S₀ := []) rfl rfl (n_laws_toOrdinalTermS_B_way hrf_n_laws_toOrdinal hrf_n_laws_toOrdinalTermS hrf_n_laws_toOrdinalTerm h)
def fc_n_laws_toOrdinalTerm (a : List T_rI) (a2 : Int) (r : List T_rI × Int) : FC := ⟨[.v (.ag [.sl false 2 (e_rI false a), .val (.int .i64 a2)])], [.cell 2 2 true], .ag [.sl false 2 (e_rI false r.1), .val (.int .i64 r.2)], [.v (.ag [.sl false 2 (e_rI false a), .val (.int .i64 a2)])]⟩
def n_laws_toOrdinalTerm_B (rf_n_laws_toOrdinal : List T_rI → Option (List T_rI)) (rf_n_laws_toOrdinalTermS : List T_rI → Option (List T_rI)) (rf_n_laws_toOrdinalTerm : List T_rI → Int → Option (List T_rI × Int)) (a : List T_rI) (a2 : Int) : Option (List T_rI × Int) :=
  ((rf_n_laws_toOrdinal a).bind fun (v6_0 : List T_rI) =>
  some (v6_0, a2))
theorem n_laws_toOrdinalTerm_B_way {I : Nat → St → Prop} {rf_n_laws_toOrdinal : List T_rI → Option (List T_rI)} {rf_n_laws_toOrdinalTermS : List T_rI → Option (List T_rI)} {rf_n_laws_toOrdinalTerm : List T_rI → Int → Option (List T_rI × Int)} (hrf_n_laws_toOrdinal : ∀ (a : List T_rI) (r : List T_rI), rf_n_laws_toOrdinal a = some r → Sound Tryd.prog F_laws_toOrdinal [.v (.ag [.sl false 2 (e_rI false a)])] (.ag [.sl true 2 (e_rI false r)]) [.v (.ag [.sl false 2 (e_rI false a)])]) (hrf_n_laws_toOrdinalTermS : ∀ (a : List T_rI) (r : List T_rI), rf_n_laws_toOrdinalTermS a = some r → Sound Tryd.prog F_laws_toOrdinalTermS [.v (.sl false 2 (e_rI false a))] (.sl true 2 (e_rI false r)) [.v (.sl false 2 (e_rI false a))]) (hrf_n_laws_toOrdinalTerm : ∀ (a : List T_rI) (a2 : Int) (r : List T_rI × Int), rf_n_laws_toOrdinalTerm a a2 = some r → Sound Tryd.prog F_laws_toOrdinalTerm [.v (.ag [.sl false 2 (e_rI false a), .val (.int .i64 a2)])] (.ag [.sl false 2 (e_rI false r.1), .val (.int .i64 r.2)]) [.v (.ag [.sl false 2 (e_rI false a), .val (.int .i64 a2)])]) {a : List T_rI} {a2 : Int} {r : List T_rI × Int} (h : n_laws_toOrdinalTerm_B rf_n_laws_toOrdinal rf_n_laws_toOrdinalTermS rf_n_laws_toOrdinalTerm a a2 = some r) : wpx Tryd.prog (FC.pn (fc_n_laws_toOrdinalTerm a a2 r)) c_laws_toOrdinalTerm_k0 (kq Tryd.prog (fc_n_laws_toOrdinalTerm a a2 r) I []) (([(0, .ag [.pu (.sl false 2 (e_rI false a)), .pu (.val (.int .i64 a2))])], []) : St).1 (([(0, .ag [.pu (.sl false 2 (e_rI false a)), .pu (.val (.int .i64 a2))])], []) : St).2 := by
  unfold n_laws_toOrdinalTerm_B at h
  refine bind_elim h (fun v6_0 c1 h => ?_)
  cases h
  exact wayR 200 [.call (hrf_n_laws_toOrdinal _ _ c1), .pass 2, .gpub 2536 (pub_ok k_rI false v6_0), .fin0] (by kernel_rfl)
theorem n_laws_toOrdinalTerm_B_ok {rf_n_laws_toOrdinal : List T_rI → Option (List T_rI)} {rf_n_laws_toOrdinalTermS : List T_rI → Option (List T_rI)} {rf_n_laws_toOrdinalTerm : List T_rI → Int → Option (List T_rI × Int)} (hrf_n_laws_toOrdinal : ∀ (a : List T_rI) (r : List T_rI), rf_n_laws_toOrdinal a = some r → Sound Tryd.prog F_laws_toOrdinal [.v (.ag [.sl false 2 (e_rI false a)])] (.ag [.sl true 2 (e_rI false r)]) [.v (.ag [.sl false 2 (e_rI false a)])]) (hrf_n_laws_toOrdinalTermS : ∀ (a : List T_rI) (r : List T_rI), rf_n_laws_toOrdinalTermS a = some r → Sound Tryd.prog F_laws_toOrdinalTermS [.v (.sl false 2 (e_rI false a))] (.sl true 2 (e_rI false r)) [.v (.sl false 2 (e_rI false a))]) (hrf_n_laws_toOrdinalTerm : ∀ (a : List T_rI) (a2 : Int) (r : List T_rI × Int), rf_n_laws_toOrdinalTerm a a2 = some r → Sound Tryd.prog F_laws_toOrdinalTerm [.v (.ag [.sl false 2 (e_rI false a), .val (.int .i64 a2)])] (.ag [.sl false 2 (e_rI false r.1), .val (.int .i64 r.2)]) [.v (.ag [.sl false 2 (e_rI false a), .val (.int .i64 a2)])]) {a : List T_rI} {a2 : Int} {r : List T_rI × Int} (h : n_laws_toOrdinalTerm_B rf_n_laws_toOrdinal rf_n_laws_toOrdinalTermS rf_n_laws_toOrdinalTerm a a2 = some r) : Sound Tryd.prog F_laws_toOrdinalTerm [.v (.ag [.sl false 2 (e_rI false a), .val (.int .i64 a2)])] (.ag [.sl false 2 (e_rI false r.1), .val (.int .i64 r.2)]) [.v (.ag [.sl false 2 (e_rI false a), .val (.int .i64 a2)])] :=
  soundX hmix ok_laws_toOrdinalTerm (fc := (fc_n_laws_toOrdinalTerm a a2 r)) rfl (S₀ := []) rfl rfl (n_laws_toOrdinalTerm_B_way hrf_n_laws_toOrdinal hrf_n_laws_toOrdinalTermS hrf_n_laws_toOrdinalTerm h)
def n_laws_toOrdinal_S : Nat → (List T_rI → Option (List T_rI)) × (List T_rI → Option (List T_rI)) × (List T_rI → Int → Option (List T_rI × Int))
  | 0 => (fun _ => none, fun _ => none, fun _ _ => none)
  | n + 1 => (n_laws_toOrdinal_B (n_laws_toOrdinal_S n).1 (n_laws_toOrdinal_S n).2.1 (n_laws_toOrdinal_S n).2.2, n_laws_toOrdinalTermS_B (n_laws_toOrdinal_S n).1 (n_laws_toOrdinal_S n).2.1 (n_laws_toOrdinal_S n).2.2, n_laws_toOrdinalTerm_B (n_laws_toOrdinal_S n).1 (n_laws_toOrdinal_S n).2.1 (n_laws_toOrdinal_S n).2.2)
def n_laws_toOrdinal_N (n : Nat) : List T_rI → Option (List T_rI) := (n_laws_toOrdinal_S n).1
def n_laws_toOrdinalTermS_N (n : Nat) : List T_rI → Option (List T_rI) := (n_laws_toOrdinal_S n).2.1
def n_laws_toOrdinalTerm_N (n : Nat) : List T_rI → Int → Option (List T_rI × Int) := (n_laws_toOrdinal_S n).2.2
theorem n_laws_toOrdinal_N_succ (n : Nat) : n_laws_toOrdinal_N (n + 1) = n_laws_toOrdinal_B (n_laws_toOrdinal_N n) (n_laws_toOrdinalTermS_N n) (n_laws_toOrdinalTerm_N n) := rfl
theorem n_laws_toOrdinalTermS_N_succ (n : Nat) : n_laws_toOrdinalTermS_N (n + 1) = n_laws_toOrdinalTermS_B (n_laws_toOrdinal_N n) (n_laws_toOrdinalTermS_N n) (n_laws_toOrdinalTerm_N n) := rfl
theorem n_laws_toOrdinalTerm_N_succ (n : Nat) : n_laws_toOrdinalTerm_N (n + 1) = n_laws_toOrdinalTerm_B (n_laws_toOrdinal_N n) (n_laws_toOrdinalTermS_N n) (n_laws_toOrdinalTerm_N n) := rfl
theorem n_laws_toOrdinal_NN : ∀ n : Nat, (∀ (a : List T_rI) (r : List T_rI), n_laws_toOrdinal_N n a = some r → Sound Tryd.prog F_laws_toOrdinal [.v (.ag [.sl false 2 (e_rI false a)])] (.ag [.sl true 2 (e_rI false r)]) [.v (.ag [.sl false 2 (e_rI false a)])]) ∧ (∀ (a : List T_rI) (r : List T_rI), n_laws_toOrdinalTermS_N n a = some r → Sound Tryd.prog F_laws_toOrdinalTermS [.v (.sl false 2 (e_rI false a))] (.sl true 2 (e_rI false r)) [.v (.sl false 2 (e_rI false a))]) ∧ (∀ (a : List T_rI) (a2 : Int) (r : List T_rI × Int), n_laws_toOrdinalTerm_N n a a2 = some r → Sound Tryd.prog F_laws_toOrdinalTerm [.v (.ag [.sl false 2 (e_rI false a), .val (.int .i64 a2)])] (.ag [.sl false 2 (e_rI false r.1), .val (.int .i64 r.2)]) [.v (.ag [.sl false 2 (e_rI false a), .val (.int .i64 a2)])]) := by
  intro n
  induction n with
  | zero => refine ⟨?_, ?_, ?_⟩ <;> first | trivial | (intros; rename_i h; cases h)
  | succ n ih => exact ⟨fun _ r h => n_laws_toOrdinal_B_ok ih.1 ih.2.1 ih.2.2 h, fun _ r h => n_laws_toOrdinalTermS_B_ok ih.1 ih.2.1 ih.2.2 h, fun _ _ r h => n_laws_toOrdinalTerm_B_ok ih.1 ih.2.1 ih.2.2 h⟩
def n_laws_toOrdinal (a : List T_rI) : Option (List T_rI) := n_laws_toOrdinal_N fuel a
theorem n_laws_toOrdinal_ok {a : List T_rI} {r : List T_rI} (h : n_laws_toOrdinal a = some r) : Sound Tryd.prog F_laws_toOrdinal [.v (.ag [.sl false 2 (e_rI false a)])] (.ag [.sl true 2 (e_rI false r)]) [.v (.ag [.sl false 2 (e_rI false a)])] := (n_laws_toOrdinal_NN fuel).1 a r h
def n_laws_toOrdinalTermS (a : List T_rI) : Option (List T_rI) := n_laws_toOrdinalTermS_N fuel a
theorem n_laws_toOrdinalTermS_ok {a : List T_rI} {r : List T_rI} (h : n_laws_toOrdinalTermS a = some r) : Sound Tryd.prog F_laws_toOrdinalTermS [.v (.sl false 2 (e_rI false a))] (.sl true 2 (e_rI false r)) [.v (.sl false 2 (e_rI false a))] := (n_laws_toOrdinal_NN fuel).2.1 a r h
def n_laws_toOrdinalTerm (a : List T_rI) (a2 : Int) : Option (List T_rI × Int) := n_laws_toOrdinalTerm_N fuel a a2
theorem n_laws_toOrdinalTerm_ok {a : List T_rI} {a2 : Int} {r : List T_rI × Int} (h : n_laws_toOrdinalTerm a a2 = some r) : Sound Tryd.prog F_laws_toOrdinalTerm [.v (.ag [.sl false 2 (e_rI false a), .val (.int .i64 a2)])] (.ag [.sl false 2 (e_rI false r.1), .val (.int .i64 r.2)]) [.v (.ag [.sl false 2 (e_rI false a), .val (.int .i64 a2)])] := (n_laws_toOrdinal_NN fuel).2.2 a a2 r h

abbrev c_laws_toRun_r0 : CC := .reg [
    ⟨(some 1), none, .box (.t 0)⟩,
    ⟨(some 2), none, .alloc [.bool false, .slice none 0 0]⟩]
abbrev c_laws_toRun_r1 : CC := .reg [
    ⟨(some 3), none, .alloc [.bool false, .slice none 0 0]⟩]
abbrev c_laws_toRun_r2 : CC := .reg [
    ⟨(some 4), none, .fadr 0 (.t 1)⟩,
    ⟨(some 5), none, .load 1 false (.t 4)⟩,
    ⟨(some 6), none, .fadr 0 (.t 3)⟩,
    ⟨none, none, .store 1 (.t 6) (.t 5)⟩]
abbrev c_laws_toRun_r3 : CC := .reg [
    ⟨(some 7), none, .fadr 1 (.t 1)⟩,
    ⟨(some 8), none, .load 1 true (.t 7)⟩,
    ⟨(some 9), none, .call false (.f 99) [(.t 8)]⟩,
    ⟨(some 10), none, .fadr 1 (.t 3)⟩,
    ⟨none, none, .store 1 (.t 10) (.t 9)⟩]
abbrev c_laws_toRun_r4 : CC := .reg [
    ⟨(some 11), none, .load 2 true (.t 3)⟩,
    ⟨none, none, .store 2 (.t 2) (.t 11)⟩]
abbrev c_laws_toRun_k8 : CC := (.seq c_laws_toRun_r4 .ret)
abbrev c_laws_toRun_k6 : CC := (.seq c_laws_toRun_r3 c_laws_toRun_k8)
abbrev c_laws_toRun_k4 : CC := (.seq c_laws_toRun_r2 c_laws_toRun_k6)
abbrev c_laws_toRun_k2 : CC := (.seq c_laws_toRun_r1 c_laws_toRun_k4)
abbrev c_laws_toRun_k0 : CC := (.seq c_laws_toRun_r0 c_laws_toRun_k2)
abbrev c_laws_toRun : CF := ⟨12, [.cell 2 2 true], c_laws_toRun_k0⟩
abbrev F_laws_toRun : Nat := 62
theorem ok_laws_toRun : compileF Tryd.prog 62 = some c_laws_toRun := by kernel_rfl
def fc_n_laws_toRun (a : Bool) (a2 : List T_rI) (r : Bool × List T_rI) : FC := ⟨[.v (.ag [.val (.bool a), .sl false 2 (e_rI false a2)])], [.cell 2 2 true], .ag [.val (.bool r.1), .sl false 2 (e_rI false r.2)], [.v (.ag [.val (.bool a), .sl false 2 (e_rI false a2)])]⟩
def n_laws_toRun  (a : Bool) (a2 : List T_rI) : Option (Bool × List T_rI) :=
  ((n_laws_toOrdinal a2).bind fun (v9_0 : List T_rI) =>
  some (a, v9_0))
theorem n_laws_toRun_way {I : Nat → St → Prop}   {a : Bool} {a2 : List T_rI} {r : Bool × List T_rI} (h : n_laws_toRun  a a2 = some r) : wpx Tryd.prog (FC.pn (fc_n_laws_toRun a a2 r)) c_laws_toRun_k0 (kq Tryd.prog (fc_n_laws_toRun a a2 r) I []) (([(0, .ag [.pu (.val (.bool a)), .pu (.sl false 2 (e_rI false a2))])], []) : St).1 (([(0, .ag [.pu (.val (.bool a)), .pu (.sl false 2 (e_rI false a2))])], []) : St).2 := by
  unfold n_laws_toRun at h
  refine bind_elim h (fun v9_0 c1 h => ?_)
  cases h
  exact wayR 200 [.call (n_laws_toOrdinal_ok c1), .pass 1, .gpub 3304 (pub_ok k_rI false v9_0), .fin0] (by kernel_rfl)
theorem n_laws_toRun_ok   {a : Bool} {a2 : List T_rI} {r : Bool × List T_rI} (h : n_laws_toRun  a a2 = some r) : Sound Tryd.prog F_laws_toRun [.v (.ag [.val (.bool a), .sl false 2 (e_rI false a2)])] (.ag [.val (.bool r.1), .sl false 2 (e_rI false r.2)]) [.v (.ag [.val (.bool a), .sl false 2 (e_rI false a2)])] :=
  soundX hmix ok_laws_toRun (fc := (fc_n_laws_toRun a a2 r)) rfl (S₀ := []) rfl rfl (n_laws_toRun_way  h)

end Go.Proofs.YtcaemkcglflmnaaDoor.Vm
