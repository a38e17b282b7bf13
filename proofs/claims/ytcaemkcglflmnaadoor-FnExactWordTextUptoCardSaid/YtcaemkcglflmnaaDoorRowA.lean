/-
  From what the form reads of an argument to what a contract of the abstract machine asks of it, and back. Conditions: none.
-/
import Derived.Test.YtcaemkcglflmnaaDoorVmJ
import Derived.Test.YtcaemkcglflmnaaDoorRows
import Derived.Deep.Slices
import Derived.ChangeSame
import Derived.ProofKit
import Derived.Lib.LaidTab
namespace Go.Proofs.YtcaemkcglflmnaaDoor.Vm
open Go Go.ChangeShapes Go.WideShapes Go.ChangeAt Go.RowKit
set_option linter.unusedVariables false
set_option linter.unusedSimpArgs false
set_option linter.unusedSectionVars false

theorem bulk_pos {H : Type} (d : DataW H) : 1 ≤ Rows.uptoBulk d := by
  cases d with
  | lit l => cases l <;> simp [Rows.uptoBulk]
  | _ => simp [Rows.uptoBulk]
theorem bulkAll_append {H : Type} : ∀ (a b : List (DataW H)), Rows.uptoBulkAll (a ++ b) = Rows.uptoBulkAll a + Rows.uptoBulkAll b
  | [], b => by simp [Rows.uptoBulkAll]
  | x :: a, b => by simp only [List.cons_append, Rows.uptoBulkAll, bulkAll_append a b]; omega

section
variable {H : Type} (enc : TypeId × Value → H) (P : Program) (m : Mem)

/-- What is read of type t, no larger than N, is an 'α' told by r, in sz cells, no larger than what is read. -/
def Opens {α : Type} (N : Nat) (t : TypeId) (sz : Nat) (r : α → List D) (c : α → Nat) : Prop :=
  ∀ (fuel : Nat) (cs : List Value) (x : DataW H × List MemPlace), DataW.trod enc P m.w 0 (fun _ => true) true fuel t cs = some x → Rows.uptoBulk x.1 ≤ N →
    ∃ a, RL m (r a) [] cs ∧ cs.length = sz ∧ (∀ u ∈ cs, cellV u = true) ∧ c a ≤ Rows.uptoBulk x.1

variable {enc P m}

theorem Opens.le {α : Type} {N M : Nat} {t sz : Nat} {r : α → List D} {c : α → Nat} (h : Opens enc P m N t sz r c) (hm : M ≤ N) : Opens enc P m M t sz r c :=
  fun f cs x hx hn => h f cs x hx (Nat.le_trans hn hm)
theorem Opens.bool {N t : Nat} (ht : P.underlying t = some .bool) : Opens enc P m N t 1 (fun b : Bool => [.val (.bool b)]) (fun _ => 1) := fun f cs x h _ => by
  obtain ⟨b, rfl, rfl⟩ := DataW.trod_bool ht h
  exact ⟨b, ⟨_, _, [], [], rfl, rfl, ⟨rfl, rfl⟩, ⟨rfl, rfl⟩⟩, rfl, by simp [cellV], bulk_pos _⟩
theorem Opens.int {N t : Nat} {k : IntKind} (ht : P.underlying t = some (.int k)) : Opens enc P m N t 1 (fun z : {z : Int // (Lit.int k z).wf = true} => [.val (.int k z.1)]) (fun _ => 1) := fun f cs x h _ => by
  obtain ⟨z, rfl, rfl, hz⟩ := DataW.trod_int ht h
  exact ⟨⟨z, hz⟩, ⟨_, _, [], [], rfl, rfl, ⟨rfl, rfl⟩, ⟨rfl, rfl⟩⟩, rfl, by simp [cellV], bulk_pos _⟩
theorem Opens.int' {N t : Nat} {k : IntKind} (ht : P.underlying t = some (.int k)) : Opens enc P m N t 1 (fun z : Int => [.val (.int k z)]) (fun _ => 1) := fun f cs x h _ => by
  obtain ⟨z, rfl, rfl, hz⟩ := DataW.trod_int ht h
  exact ⟨z, ⟨_, _, [], [], rfl, rfl, ⟨rfl, rfl⟩, ⟨rfl, rfl⟩⟩, rfl, by simp [cellV], bulk_pos _⟩
theorem Opens.string {N t : Nat} (ht : P.underlying t = some .string) : Opens enc P m N t 1 (fun s : ByteArray => [.val (.string s)]) (fun s => s.size + 1) := fun f cs x h _ => by
  obtain ⟨z, rfl, rfl, hz⟩ := DataW.trod_string ht h
  exact ⟨z, ⟨_, _, [], [], rfl, rfl, ⟨rfl, rfl⟩, ⟨rfl, rfl⟩⟩, rfl, by simp [cellV], by
    show z.data.size + 1 ≤ z.data.toList.length + 1
    rw [Array.length_toList]; exact Nat.le_refl _⟩

theorem Opens.struct1 {α : Type} {N t sz : Nat} {f0 : Field} {r : α → List D} {c : α → Nat} (ht : P.underlying t = some (.struct #[f0])) (h0 : f0.offset = 0) (hc : P.cellsOf t = P.cellsOf f0.type)
    (h : Opens enc P m N f0.type sz r c) : Opens enc P m (N + 1) t sz r c := fun f cs x hx hn => by
  obtain ⟨y, n, rfl, hl, hy⟩ := trod_struct1 ht hx
  rw [h0, List.drop_zero, List.take_of_length_le (by omega)] at hy
  simp only [Rows.uptoBulk, Rows.uptoBulkAll] at hn ⊢
  obtain ⟨a, h1, h2, h3, h4⟩ := h n cs y hy (by omega)
  exact ⟨a, h1, h2, h3, by omega⟩
theorem Opens.struct2 {α β : Type} {N t sz0 sz1 : Nat} {f0 f1 : Field} {r : α → List D} {c : α → Nat} {r' : β → List D} {c' : β → Nat} (ht : P.underlying t = some (.struct #[f0, f1])) (h0 : f0.offset = 0) (h1 : f1.offset = P.cellsOf f0.type)
    (hc : P.cellsOf t = P.cellsOf f0.type + P.cellsOf f1.type) (h : Opens enc P m N f0.type sz0 r c) (k : Opens enc P m N f1.type sz1 r' c') : Opens enc P m (N + 1) t (sz0 + sz1) (fun x : α × β => r x.1 ++ r' x.2) (fun x => c x.1 + c' x.2) := fun f cs x hx hn => by
  obtain ⟨y, z, n, rfl, hl, hy, hz⟩ := trod_struct2 ht hx
  rw [h0, List.drop_zero] at hy
  rw [h1, List.take_of_length_le (by simp; omega)] at hz
  simp only [Rows.uptoBulk, Rows.uptoBulkAll] at hn ⊢
  obtain ⟨a, a1, a2, a3, a4⟩ := h n _ y hy (by omega)
  obtain ⟨b, b1, b2, b3, b4⟩ := k n _ z hz (by omega)
  have e : cs = cs.take (P.cellsOf f0.type) ++ cs.drop (P.cellsOf f0.type) := by simp
  refine ⟨(a, b), ?_, ?_, ?_, by simp only; omega⟩
  · rw [e]; simpa using RL_app _ _ _ _ _ _ a1 b1
  · rw [e, List.length_append, a2, b2]
  · rw [e]; intro u hu; rcases List.mem_append.1 hu with h | h
    · exact a3 u h
    · exact b3 u h
theorem Opens.map {α β : Type} {N t sz : Nat} {r : α → List D} {c : α → Nat} {r' : β → List D} {c' : β → Nat} (h : Opens enc P m N t sz r c) (f : α → β) (hr : ∀ a, r' (f a) = r a) (hc : ∀ a, c' (f a) ≤ c a) : Opens enc P m N t sz r' c' := fun fu cs x hx hn => by
  obtain ⟨a, h1, h2, h3, h4⟩ := h fu cs x hx hn
  exact ⟨f a, by rw [hr]; exact h1, h2, h3, Nat.le_trans (hc a) h4⟩

theorem flat_cells {W : World} {b o sz : Nat} {arr : Array Value} {t : Nat} {fz : Nat × Nat} (hb : W.heap[b]? = some (.cells arr t fz)) (G : Nat → List Value) : ∀ n : Nat,
    (∀ i, i < n → W.cells? 0 ((⟨b, o, none⟩ : Addr).add (i * sz)) sz = some (G i) ∧ (∀ u ∈ G i, cellV u = true)) → CellsAt arr o ((List.range n).flatMap G) ∧ ((List.range n).flatMap G).length = n * sz := by
  intro n
  induction n with
  | zero => intro _; exact ⟨fun j u hj => by simp at hj, by simp⟩
  | succ n ih =>
    intro h
    obtain ⟨h1, h2⟩ := ih (fun i hi => h i (by omega))
    obtain ⟨h3, h4⟩ := h n (by omega)
    obtain ⟨_, h5, h6⟩ := World.cells?_some h3
    rw [List.range_succ, List.flatMap_append]
    simp only [List.flatMap_cons, List.flatMap_nil, List.append_nil]
    refine ⟨fun j u hj => ?_, by simp [h2, h5, Nat.add_mul]⟩
    by_cases hlt : j < n * sz
    · rw [List.getElem?_append_left (by omega)] at hj
      exact h1 j u hj
    · rw [List.getElem?_append_right (by omega), h2] at hj
      have hj' : j - n * sz < sz := by have := (List.getElem?_eq_some_iff.1 hj).1; omega
      have h7 := h6 (j - n * sz) hj'
      rw [hj, WideShapes.add_plain, WideShapes.add_plain] at h7
      refine ⟨?_, h4 u (List.mem_of_getElem? hj)⟩
      simp only [World.cell?, hb] at h7
      rw [← h7]
      congr 1
      omega
theorem rll_range {α : Type} {r : α → List D} (g : Nat → α × List Value) : ∀ n : Nat, (∀ i, i < n → RL m (r (g i).1) [] (g i).2) →
    RLL m (((List.range n).map fun i => (g i).1).map r) [] ((List.range n).flatMap fun i => (g i).2) := by
  intro n
  induction n with
  | zero => intro _; simp [RLL]
  | succ n ih =>
    intro h
    rw [List.range_succ, List.flatMap_append, List.map_append, List.map_append]
    refine RLL_app _ _ [] [] _ _ (ih fun i hi => h i (by omega)) ?_
    simp only [List.map_cons, List.map_nil, List.flatMap_cons, List.flatMap_nil]
    exact ⟨_, _, [], [], rfl, rfl, h n (by omega), rfl, rfl⟩
theorem sum_range {α β : Type} (c : α → Nat) (d : β → Nat) (g : Nat → α) (D : Nat → β) : ∀ n : Nat, (∀ i, i < n → c (g i) ≤ d (D i)) →
    (((List.range n).map g).map c).sum ≤ (((List.range n).map D).map d).sum := by
  intro n
  induction n with
  | zero => intro _; simp
  | succ n ih =>
    intro h
    rw [List.range_succ]
    simp only [List.map_append, List.sum_append_nat, List.map_cons, List.map_nil, List.sum_cons, List.sum_nil]
    have := ih fun i hi => h i (by omega)
    have := h n (by omega)
    omega
theorem bulkAll_sum {H : Type} : ∀ l : List (DataW H), Rows.uptoBulkAll l = (l.map Rows.uptoBulk).sum
  | [] => rfl
  | x :: l => by simp [Rows.uptoBulkAll, bulkAll_sum l]
theorem bulk_mem {H : Type} {l : List (DataW H)} {d : DataW H} (h : d ∈ l) : Rows.uptoBulk d ≤ Rows.uptoBulkAll l := by
  induction l with
  | nil => cases h
  | cons x l ih =>
    simp only [Rows.uptoBulkAll]
    rcases List.mem_cons.1 h with rfl | h
    · omega
    · have := ih h; omega

theorem Opens.slice {α : Type} [Inhabited α] {N t e sz : Nat} {r : α → List D} {c : α → Nat} (him : ∀ b, b < m.w.heap.size → m.im b = true) (ht : P.underlying t = some (.slice e)) (hc : P.cellsOf e = sz) (hs : 0 < sz) (hr : ∀ a, (r a).length = sz)
    (h : Opens enc P m N e sz r c) : Opens enc P m (N + 1) t 1 (fun l : List α => [.sl false sz (l.map r)]) (fun l => 1 + (l.map c).sum) := fun f cs x hx hn => by
  rcases Deep.open_slice ht hx with ⟨rfl, rfl⟩ | ⟨a, len, cap, m', n, Dd, Pl, rfl, hb, hl, hm, hmm, rfl, hxs⟩
  · refine ⟨[], ⟨_, _, [], [], rfl, rfl, ?_, rfl, rfl⟩, rfl, by simp [cellV], by simp [Rows.uptoBulk]⟩
    exact ⟨by simp, rfl, none, 0, rfl, Nat.le_refl _, .inl rfl⟩
  · simp only [Rows.uptoBulk] at hn
    have hlm : len ≤ m' := by simp only [if_true] at hmm; omega
    obtain ⟨g, hg⟩ := Deep.choose_lt (α := α × List Value) (n := len) (p := fun i y => m.w.cells? 0 (a.add (i * sz)) sz = some y.2 ∧ RL m (r y.1) [] y.2 ∧ y.2.length = sz ∧ (∀ u ∈ y.2, cellV u = true) ∧ c y.1 ≤ Rows.uptoBulk (Dd i)) (fun i hi => by
      obtain ⟨cs', h1, h2⟩ := hxs i (by omega)
      have hbk : Rows.uptoBulk (Dd i) ≤ Rows.uptoBulkAll ((List.range len).map Dd) := bulk_mem (List.mem_map.2 ⟨i, by simpa using hi, rfl⟩)
      obtain ⟨y, y1, y2, y3, y4⟩ := h n cs' _ h2 (by simp only; omega)
      rw [hc] at h1
      exact ⟨(y, cs'), h1, y1, y2, y3, y4⟩)
    refine ⟨(List.range len).map fun i => (g i).1, ⟨_, _, [], [], rfl, rfl, ?_, rfl, rfl⟩, rfl, by simp [cellV], ?_⟩
    · refine ⟨fun x hx => ?_, rfl, some a, cap, by simp, by simpa using hl, ?_⟩
      · simp only [List.map_map, List.mem_map] at hx
        obtain ⟨i, _, rfl⟩ := hx
        exact hr _
      · by_cases h0 : len = 0
        · left; subst h0; rfl
        · right
          obtain ⟨h1, h2, _⟩ := hg 0 (by omega)
          obtain ⟨_, h3, h4⟩ := World.cells?_some h1
          have h5 := h4 0 hs
          rw [List.getElem?_eq_getElem (by omega)] at h5
          have hsp := World.cell?_spot h5
          have e1 : a.spot = none := by simpa [Addr.add] using hsp
          obtain ⟨b, o, sp⟩ := a
          subst e1
          have hbk : ∃ arr tt fz, m.w.heap[b]? = some (.cells arr tt fz) := by
            simp only [Nat.zero_mul, World.cell?, Addr.add, if_true] at h5
            split at h5
            · rename_i arr tt fz hh; exact ⟨arr, tt, fz, hh⟩
            · cases h5
          obtain ⟨arr, tt, fz, hh⟩ := hbk
          have hlt : b < m.w.heap.size := (Array.getElem?_eq_some_iff.1 hh).1
          obtain ⟨k1, k2⟩ := flat_cells (o := o) (sz := sz) hh (fun i => (g i).2) len (fun i hi => ⟨(hg i hi).1, (hg i hi).2.2.2.1⟩)
          exact ⟨b, o, arr, tt, fz, _, rfl, him b hlt, hh, k1, by simpa using k2, rll_range g len (fun i hi => (hg i hi).2.1)⟩
    · have := sum_range c Rows.uptoBulk (fun i => (g i).1) Dd len (fun i hi => (hg i hi).2.2.2.2)
      rw [← bulkAll_sum] at this
      simp only [Rows.uptoBulk]
      omega
end

/-- What a call leaves that was lent nothing: what was there is as it was. -/
theorem After.below [Tbl] {W : World} {im : Nat → Bool} {m' : Mem} {new : List Nat} (h : After ⟨W, im⟩ [] m' new) : Below W.heap.size W m'.w :=
  ⟨h.os, h.tape, h.output, h.size, fun k hk => (h.keep k hk (by simp)).1⟩
/-- The memory in which a call begins. -/
def mem0 (W : World) : Mem := ⟨W, fun b => decide (b < W.heap.size)⟩
theorem mem0_wf (W : World) : ∀ b, (mem0 W).w.heap.size ≤ b → (mem0 W).im b = false := fun b hb => by simp [mem0] at hb ⊢; omega
theorem mem0_im (W : World) : ∀ b, b < (mem0 W).w.heap.size → (mem0 W).im b = true := fun b hb => by simp [mem0] at hb ⊢; omega
theorem tab_one {W : World} {P : Program} {name : String} {k : IntKind} {zs : List Int} {g : Nat} (h : Lib.TabIs P W name k zs) (hg : P.globalNamed name = some g) : (mem0 W).im g = true ∧ ∃ t fz, W.heap[g]? = some (.cells (zs.map fun z => Value.int k z).toArray t fz) := by
  unfold Lib.TabIs World.var? at h
  simp only [hg] at h
  have : ∃ t fz, W.heap[g]? = some (.cells (zs.map fun z => Value.int k z).toArray t fz) := by
    revert h
    cases hh : W.heap[g]? with
    | none => simp [hh]
    | some o => cases o <;> simp [hh]
  obtain ⟨t, fz, hh⟩ := this
  exact ⟨by simp [mem0]; exact (Array.getElem?_eq_some_iff.1 hh).1, t, fz, hh⟩

end Go.Proofs.YtcaemkcglflmnaaDoor.Vm
