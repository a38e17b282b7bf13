/-
  Library functions: strconv.Itoa and strings.Join as plain functions, by the shelf's contracts. Conditions: none.
-/
import Derived.Test.YtcaemkcglflmnaaDoorTr0
import Derived.Test.YtcaemkcglflmnaaDoorShelf
namespace Go.Proofs.YtcaemkcglflmnaaDoor.Vm
open Go Go.Proofs Go.RowKit
set_option linter.unusedVariables false
set_option linter.unusedSimpArgs false

theorem tabIs {m : Mem} (h : Tab m) : Lib.TabIs Tryd.prog m.w "internal/strconv.uint64pow10" .u64 Lib.pow10Tab := by
  obtain ⟨_, t, fz, h2⟩ := h (2, (Lib.pow10Tab.map fun z => Value.int .u64 z).toArray) (by simp [Tbl.tb])
  have hg : Tryd.prog.globalNamed "internal/strconv.uint64pow10" = some 2 := by kernel_rfl
  simp only [Lib.TabIs, World.var?, hg, Option.bind_some, h2]

abbrev F_strconv_Itoa : Nat := 67
abbrev F_strings_Join : Nat := 68
def n_strconv_Itoa (i : Int) : Option ByteArray := if -9223372036854775808 ≤ i ∧ i ≤ 9223372036854775807 then some ⟨(Lib.itoa i).toArray⟩ else none
theorem below_grow (w : World) (k : Nat) (os : Array Obj) : Below w.heap.size w { w.drewN k with heap := (w.drewN k).heap ++ os } :=
  ⟨rfl, rfl, rfl, by show w.heap.size ≤ (w.heap ++ os).size; simp, fun k hk => by show (w.heap ++ os)[k]? = _; rw [Array.getElem?_append_left hk]⟩
theorem n_strconv_Itoa_ok {i : Int} {r : ByteArray} (h : n_strconv_Itoa i = some r) : Sound Tryd.prog F_strconv_Itoa [.v (.val (.int .i64 i))] (.val (.string r)) [.v (.val (.int .i64 i))] := by
  unfold n_strconv_Itoa at h
  split at h
  · rename_i hi
    obtain rfl := Option.some.inj h
    refine ⟨⟨_, (by kernel_rfl : Tryd.prog.funcs[67]? = some Tryd.f67), by kernel_rfl, by kernel_rfl⟩, fun m vs bs ht hwf hargs _ _ _ => ?_⟩
    simp only [RArgs, RArg, R] at hargs
    obtain ⟨v, vs', b1, b2, rfl, rfl, ⟨rfl, _, rfl⟩, rfl, rfl⟩ := hargs
    refine (Tryd.strconv_Itoa i hi.1 hi.2 m.w (tabIs ht)).mono ?_
    rintro e w' ⟨rfl, k, os, rfl⟩
    refine ⟨_, m.im, [], [], rfl, after_below hwf (below_grow m.w k os), by simp [R], ?_⟩
    simp only [RArgs, RArg, R]
    exact ⟨_, _, [], [], rfl, rfl, ⟨rfl, trivial, rfl⟩, rfl, rfl⟩
  · cases h

def n_strings_Join (elems : List ByteArray) (sep : ByteArray) : Option ByteArray :=
  if elems.length ≤ 140737488355328 ∧ (Lib.join (elems.map (·.data.toList)) sep.data.toList).length ≤ 140737488355328 then some ⟨(Lib.join (elems.map (·.data.toList)) sep.data.toList).toArray⟩ else none
theorem strs_at {m : Mem} : ∀ (l : List ByteArray) (us : List Value), RLL m (e_S false l) [] us → us = l.map .string
  | [], us, h => by simp only [e_S, List.map_nil, RLL] at h; simp [h.2]
  | s :: l, us, h => by
    simp only [e_S, List.map_cons, RLL, r_S, RL, R] at h
    obtain ⟨u1, u2, b1, b2, rfl, hb, ⟨u, u', c1, c2, rfl, rfl, ⟨rfl, rfl⟩, rfl, rfl⟩, h4⟩ := h
    simp only [List.nil_append] at hb
    subst hb
    rw [strs_at l u2 h4]
    rfl
theorem n_strings_Join_ok {elems : List ByteArray} {sep : ByteArray} {r : ByteArray} (h : n_strings_Join elems sep = some r) : Sound Tryd.prog F_strings_Join [.v (.sl false 1 (e_S false elems)), .v (.val (.string sep))] (.val (.string r)) [.v (.sl false 1 (e_S false elems)), .v (.val (.string sep))] := by
  unfold n_strings_Join at h
  split at h
  · rename_i hi
    obtain rfl := Option.some.inj h
    refine ⟨⟨_, (by kernel_rfl : Tryd.prog.funcs[68]? = some Tryd.f68), by kernel_rfl, by kernel_rfl⟩, fun m vs bs ht hwf hargs _ _ _ => ?_⟩
    have hargs0 := hargs
    simp only [RArgs, RArg] at hargs
    obtain ⟨v, vs', b1, b2, rfl, rfl, ⟨rfl, hv⟩, v2, vs2, b3, b4, rfl, rfl, ⟨rfl, hv2⟩, rfl, rfl⟩ := hargs
    simp only [R] at hv2
    obtain ⟨_, rfl⟩ := hv2
    have fin : ∀ (e : Ending) (w' : World), e = .returned (.string ⟨(Lib.join (elems.map (·.data.toList)) sep.data.toList).toArray⟩) ∧ Below m.w.heap.size m.w w' → ∃ v' im' b1 b2, e = .returned v' ∧ After m [] ⟨w', im'⟩ (b1 ++ b2) ∧ R ⟨w', im'⟩ (.val (.string ⟨(Lib.join (elems.map (·.data.toList)) sep.data.toList).toArray⟩)) b1 v' ∧ RArgs ⟨w', im'⟩ [.v (.sl false 1 (e_S false elems)), .v (.val (.string sep))] b2 [v, .string sep] := by
      rintro e w' ⟨rfl, hb⟩
      refine ⟨_, m.im, [], [], rfl, after_below hwf hb, by simp [R], ?_⟩
      have hle : MemLe m ⟨w', m.im⟩ := ⟨hb.size, fun b hbb => ⟨hbb, hb.block b (by
        rcases Nat.lt_or_ge b m.w.heap.size with h1 | h1
        · exact h1
        · rw [hwf b h1] at hbb; cases hbb)⟩⟩
      simp only [RArgs, RArg]
      exact ⟨v, [.string sep], [], [], rfl, rfl, ⟨rfl, R_mono hle _ _ _ (KeepB.nil _ _) hv⟩, _, [], [], [], rfl, rfl, ⟨rfl, by simp [R]⟩, rfl, rfl⟩
    simp only [R] at hv
    obtain ⟨_, _, A, c, rfl, hc, hrows⟩ := hv
    have hl : (e_S false elems).length = elems.length := by simp [e_S]
    rw [hl] at hc ⊢
    rcases hrows with he | ⟨b, o, arr, t, fz, us, rfl, him, hh, hat, hlen, hr⟩
    · have : elems = [] := by simpa [e_S] using he
      subst this
      refine (Tryd.strings_Join_none A c sep m.w).mono ?_
      rintro e w' ⟨rfl, rfl⟩
      refine fin _ _ ⟨?_, Below.refl _ _⟩
      simp [Lib.join]
    · have hus := strs_at elems us hr
      subst hus
      refine (Tryd.strings_Join b o c elems sep m.w (fun j x hj => ?_) ?_ hi.1 hc hi.2).mono fun e w' h => (by have := fin e w' h; rw [hl] at this; exact this)
      · have := (hat j (.string x) (by simp [hj])).1
        simp [World.cell?, hh, this]
      · exact (Array.getElem?_eq_some_iff.1 hh).1
  · cases h

end Go.Proofs.YtcaemkcglflmnaaDoor.Vm
