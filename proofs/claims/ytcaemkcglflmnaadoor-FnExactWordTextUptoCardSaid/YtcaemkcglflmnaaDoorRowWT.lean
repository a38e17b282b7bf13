/-
  The row of WordText: what is read of the argument, the contract, the witness, the card. Conditions: none.
-/
import Derived.Test.YtcaemkcglflmnaaDoorRowA
import Derived.Test.YtcaemkcglflmnaaDoorPlE
import Derived.Test.YtcaemkcglflmnaaDoorCards
import Derived.Test.YtcaemkcglflmnaaDoorTie
import Derived.ProofKit
import Derived.OpenShut
import Derived.Carry
import Derived.Deep.DeepHandedRow
import Derived.Lib.LaidTab
namespace Go.Proofs.YtcaemkcglflmnaaDoor.Vm
open Go Go.ChangeShapes Go.WideShapes Go.ChangeAt Go.RowKit
set_option linter.unusedVariables false
set_option linter.unusedSimpArgs false
set_option linter.unusedSectionVars false

section
variable {H : Type} {enc : TypeId × Value → H} {m : Mem}
theorem Opens.zero {α : Type} {t sz : Nat} {r : α → List D} {c : α → Nat} : Opens enc Tryd.prog m 0 t sz r c := fun f cs x _ hn => by
  have := bulk_pos x.1
  omega
theorem cntL_sum : ∀ l : List T_rI, cntL l = (l.map T_rI.cnt).sum
  | [] => rfl
  | t :: l => by simp only [cntL, List.map_cons, List.sum_cons, cntL_sum l]
theorem opens_ord {N : Nat} (him : ∀ b, b < m.w.heap.size → m.im b = true) (h : Opens enc Tryd.prog m N 184 2 (r_rI false) T_rI.cnt) :
    Opens enc Tryd.prog m (N + 2) 97 1 (fun l : List T_rI => [.sl false 2 (e_rI false l)]) (fun l => 1 + cntL l) :=
  ((Opens.struct1 Tryd.underlying97 rfl (by kernel_rfl) (Opens.slice (sz := 2) (r := r_rI false) (c := T_rI.cnt) him Tryd.underlying95 (by kernel_rfl) (by omega) (fun a => rfl) h)).map id
    (fun a => by simp only [id, er_rI]) (fun a => by simp only [id, cntL_sum]; exact Nat.le_refl _))
theorem opens_term (him : ∀ b, b < m.w.heap.size → m.im b = true) : ∀ N : Nat, Opens enc Tryd.prog m N 184 2 (r_rI false) T_rI.cnt
  | 0 => Opens.zero
  | N + 1 => (Opens.struct2 Tryd.underlying184 rfl (by kernel_rfl) (by kernel_rfl) ((opens_ord him (opens_term him N)).le (by omega)) (Opens.int' Tryd.underlying3)).map (fun x => T_rI.mk x.1 x.2)
    (fun a => rfl) (fun a => by simp only [T_rI.cnt]; omega)
theorem opens_word (him : ∀ b, b < m.w.heap.size → m.im b = true) (N : Nat) : Opens enc Tryd.prog m N 32 1 (fun w : Wo => [.sl false 2 (e_BLrIz false w)]) cntW :=
  ((Opens.struct1 (N := N + 1) Tryd.underlying32 rfl (by kernel_rfl) (Opens.slice (N := N) him Tryd.underlying30 (by kernel_rfl) (by omega) (r := r_BLrIz false) (c := fun x => 1 + cntL x.2) (fun a => rfl)
    ((Opens.struct2 (N := N) (sz0 := 1) (sz1 := 1) Tryd.underlying99 rfl (by kernel_rfl) (by kernel_rfl) (Opens.bool Tryd.underlying4) ((opens_ord him (opens_term him N)).le (by omega))).map
      (fun x => x) (fun a => rfl) (fun a => by omega) |>.le (by omega)))).map (fun x => x) (fun a => rfl) (fun a => by
        have : ∀ w : Wo, cntW w = (w.map fun x => 1 + cntL x.2).sum := fun w => by induction w with
          | nil => rfl
          | cons x w ih => simp only [cntW, List.map_cons, List.sum_cons, ih]
        rw [this]; omega)).le (by omega)
end
theorem own : ownKnob Tryd.prog.godebug = none := by kernel_rfl
theorem laidOut : laidOutB Tryd.prog = true := by kernel_rfl
theorem laidMet_drop {P : Program} {W : World} {x : String × DataW Unit} {rest : List (String × DataW Unit)} (h : laidMet P (x :: rest) W) : laidMet P rest W := by
  obtain ⟨ps, ⟨g, t, cs, fuel, p, q, h1, h2, h3, h4, h5, rfl⟩, hn, hf⟩ := h
  exact ⟨q, h5, (List.nodup_append.1 hn).2.1, fun b off hb => hf b off (List.mem_append_right _ hb)⟩
theorem tabs_of {W : World} (h : laidMetH Tryd.prog Rows.fnExactWordTextUptoRow.laid W) : Tab (mem0 W) := by
  have h2 : laidMet Tryd.prog (("internal/strconv.uint64pow10", Lib.tabData .u64 Lib.pow10Tab) :: []) W := laidMet_drop (laidMet_drop h)
  intro q hq
  have : q = (2, (Lib.pow10Tab.map fun z => Value.int .u64 z).toArray) := by simpa [Tbl.tb] using hq
  subst this
  exact tab_one (Lib.tabIs_of_head (n := 20) (t := 209) (e := 187) (g := 2) (by kernel_rfl) (by kernel_rfl) (by kernel_rfl) (by kernel_rfl) (by kernel_rfl) (by kernel_rfl) h2) (by kernel_rfl)

set_option maxRecDepth 100000 in
theorem contract (H : Type) (enc : TypeId × Value → H) (W : World) (base : Nat) (args : Array Value) (ds gs : List (DataW H)) (before : List MemPlace)
    (hval : ∀ (j : Nat) t v, Tryd.f4.params[j]? = some t → args[j]? = some v → Value.okWide Tryd.prog W .any base t v)
    (hW : DataW.Whole enc Tryd.prog Tryd.f4.params.toList Rows.fnExactWordTextSpec.vars false W args.toList ds gs before) (hk : Rows.uptoSmall H (ds ++ gs) = true) (hL : laidMetH Tryd.prog Rows.fnExactWordTextUptoRow.laid W) :
    Calls Tryd.prog 4 args W fun e W' => ∃ v, e = .returned v ∧ Rows.fnExactWordTextSpec.post enc Tryd.prog Tryd.f4 false true false false W args v W' := by
  have hW' := hW
  obtain ⟨p, q, hA0, hV, rfl, hfz, hnd⟩ := hW
  have hA : DataW.TrodAll enc Tryd.prog W 0 (fun _ => true) true Tryd.f4.params.toList args.toList ds p := hA0
  rw [Tryd.params4] at hA hval
  obtain ⟨v0, vs0, d0, ds0, p0, q0, hargs, rfl, rfl, h0, r0⟩ := trodAll_cons hA
  obtain ⟨rfl, rfl, rfl⟩ := trodAll_nil r0
  obtain rfl : args = #[v0] := by cases args; simp_all
  obtain ⟨rfl, rfl⟩ := trodVars_none hV
  obtain ⟨cs, rfl, hcs⟩ := okWide_struct Tryd.underlying32 (hval 0 32 v0 rfl rfl)
  have h0k := h0
  obtain ⟨fuel, hf⟩ := h0
  clear hA0
  simp only [List.append_nil] at hW' hk
  have hlt : ∀ x ∈ p0, x.block < W.heap.size := fun x hx => by simpa using hW'.lt x (by simpa using hx)
  have hsm : Rows.uptoBulk d0 ≤ 1048576 := by
    have := of_decide_eq_true hk
    simpa only [Rows.uptoBulkAll, Nat.add_zero] using this
  obtain ⟨w, hw1, hw2, hw3, hw4⟩ := opens_word (enc := enc) (m := mem0 W) (mem0_im W) 1048576 fuel _ _ hf hsm
  have hlaw := law_WordText w (by simp only [sml]; simp only at hw4; omega)
  have hrun := (n_laws_FnExactWordText_ok hlaw).run (mem0 W) [.agg cs] [] (tabs_of hL) (mem0_wf W) ⟨_, _, [], [], rfl, rfl, ⟨rfl, cs.toList, rfl, by simpa [Value.cells] using hw1⟩, rfl, rfl⟩ List.nodup_nil (by simp) (by simp)
  refine Calls.mono hrun fun e W' hx => ?_
  obtain ⟨v, im', b1, b2, rfl, hafter, hr, _⟩ := hx
  obtain ⟨_, rfl⟩ : b1 = [] ∧ v = .bool true := hr
  have bel := hafter.below
  refine ⟨_, rfl, _, _, _, [], p0, [], hW', ?_, ?_, ?_, bel.frame _, fun h => by cases h⟩
  · exact trodAll_mk1 (shut_bool Tryd.underlying4 true)
  · exact trodAll_mk1 (Below.trod laidOut (by kernel_rfl) (of_decide_eq_true (by kernel_rfl)) h0k bel hlt)
  · rfl

def arr0 : DataW Unit → Array Value
  | .agg l => (l.map fun | .lit (.int k z) => Value.int k z | _ => Value.bool false).toArray
  | _ => #[]
def putArr (d : DataW Unit) : Obj → Obj
  | .cells _ t frozen => .cells (arr0 d) t frozen
  | o => o
/-- A world for the witness: the settled one, the tables holding what their initialisers lay. -/
noncomputable def laidWorld (os : Os) : World :=
  { World.holding Tryd.prog os ⟨#[], #[], []⟩ with heap := (((World.holding Tryd.prog os ⟨#[], #[], []⟩).heap.modify 4 (putArr Rows.laid_math_bits_deBruijn32tab)).modify 5 (putArr Rows.laid_math_bits_deBruijn64tab)).modify 2 (putArr Rows.laid_internal_strconv_uint64pow10) }
theorem laid_met (os : Os) : laidMet Tryd.prog Rows.fnExactWordTextUptoRow.laid ((laidWorld os).forCall (fun _ _ => 0) ⟨#[], #[.agg #[.slice none 0 0]], []⟩).memory :=
  laidMet_of_run' 8 (by kernel_rfl) (by kernel_rfl)
theorem reads (os : Os) {H : Type} (enc : TypeId × Value → H) : ∃ places, DataW.whole enc Tryd.prog ((laidWorld os).forCall (fun _ _ => 0) ⟨#[], #[.agg #[.slice none 0 0]], []⟩).memory Tryd.f4.params.toList Rows.fnExactWordTextSpec.vars false #[Value.agg #[.slice none 0 0]].toList 8 = some ([.agg [.nil]], [], places) :=
  ⟨[], by kernel_rfl⟩

set_option maxRecDepth 100000 in
theorem lifted (os : Os) (started : os.Started) (H : Type) (enc : TypeId × Value → H) (F : Stop.Interp) :
    ReturnsInHanded {} Tryd.checked os 4 .any ((Rows.OpenSpec.upto Rows.fnExactWordTextSpec).preRow enc Tryd.prog Tryd.f4 Rows.fnExactWordTextUptoRow.domain false Rows.fnExactWordTextUptoRow.laid) (((Rows.OpenSpec.upto Rows.fnExactWordTextSpec).at F).post enc Tryd.prog Tryd.f4 false true false false) := by
  obtain ⟨places, hx⟩ := reads os enc
  refine returnsInHanded_of_row (C := Tryd.checked) (s := Rows.OpenSpec.upto Rows.fnExactWordTextSpec) own started (by kernel_rfl) Tryd.func4
    (witness_row_at (enc := enc) (C := Tryd.checked) false (laidWorld os) #[.agg #[.slice none 0 0]] rfl (by kernel_rfl) (by kernel_rfl) (by kernel_rfl)
      (OpenSpec.preRow_of_cond 8 hx (by kernel_rfl) (fun k hk => by cases hk; kernel_rfl) (by kernel_rfl) (laid_met os))) ?_
  intro W base args ds gs before hval hW _ hcond _ hL _ _
  exact contract H enc W base args ds gs before hval hW (hcond _ rfl) hL

theorem said : Rows.FnExactWordTextUptoSaid :=
  OpenClaim.holds_of_cond 4 Tryd.f4 rfl rfl rfl rfl rfl rfl rfl ⟨rfl, rfl, rfl, rfl, rfl⟩ rfl rfl rfl rfl rfl (by kernel_rfl) Tryd.func4 (by kernel_rfl)
    (of_decide_eq_true (by kernel_rfl)) (by unfold Func.isWrapper; first | (rw [if_pos (by decide +kernel)]; kernel_rfl) | (rw [if_neg (by decide +kernel)]; exact ⟨rfl, rfl⟩))
    (fun os started H enc _ F => by rw [OpenClaim.pre_eq_preRow]; exact lifted os started H enc F)

theorem plain (f : FuncId) (fn : Func) (hf : Tryd.pinned.checked.prog.funcNamed "loop.example/g01096/laws.FnExactWordText" = some f) (hfn : Tryd.pinned.checked.prog.funcs[f]? = some fn) :
    false = Tryd.pinned.checked.prog.looks [] ∧ ∀ (j : Nat) t, fn.params[j]? = some t → Tryd.pinned.checked.prog.wantsStandIn t = false := by
  obtain rfl : f = 4 := Option.some.inj ((show Tryd.prog.funcNamed "loop.example/g01096/laws.FnExactWordText" = some 4 by kernel_rfl).symm.trans hf) |>.symm
  obtain rfl : fn = Tryd.f4 := (Option.some.inj (Tryd.func4.symm.trans hfn)).symm
  refine ⟨by kernel_rfl, fun j t ht => ?_⟩
  rw [Tryd.params4] at ht
  obtain rfl : t = 32 := by simpa using Array.mem_of_getElem? ht
  exact (show Tryd.prog.wantsStandIn 32 = false by kernel_rfl)

/-- THE CARD. -/
theorem card : Rows.FnExactWordTextUptoCardSaid :=
  Claim7.holds_tied_plain_at .later [] _ _ _ _ said (fun _ h => by cases h) (by kernel_rfl) (fun _ h => by cases h) fnExactWordTextUpto_row_tie rfl ⟨rfl, rfl⟩ (by kernel_rfl) rfl plain (by kernel_rfl)

end Go.Proofs.YtcaemkcglflmnaaDoor.Vm
namespace Go.Proofs.YtcaemkcglflmnaaDoor
theorem fnExactWordTextUpto_card : Rows.FnExactWordTextUptoCardSaid := Vm.card
end Go.Proofs.YtcaemkcglflmnaaDoor
