/-
  The abstract machine, part A: plain data D, what it means that a value reads as data in a memory (R), and what keeps such readings. Conditions: none.
-/
import Derived.WalkKit
namespace Go.Proofs.YtcaemkcglflmnaaDoor.Vm
open Go Go.RowKit
set_option linter.unusedSimpArgs false
set_option linter.unusedVariables false

/-- Data: a value that is known; a slice (owned by its holder alone, or never to be written again); a struct; a tuple; an address of memory that is never written again; a function value with what it captured. -/
inductive D where
  | val (v : Value)
  | sl (own : Bool) (sz : Nat) (rows : List (List D))
  | ag (cells : List D)
  | tp (cells : List D)
  | rp (cells : List D)
  | cl (f : Nat) (caps : List D)
  deriving Inhabited

/-- A world, and which of its blocks are never written again. -/
structure Mem where
  w : World
  im : Nat → Bool

def nilS : Value := .slice none 0 0
def ptr (b o : Nat) : Value := .pointer (some ⟨b, o, none⟩)

/-- A value that is one cell. -/
def cellV : Value → Bool
  | .agg _ => false
  | .tuple _ => false
  | _ => true

def CellsAt (arr : Array Value) (o : Nat) (us : List Value) : Prop :=
  ∀ (j : Nat) (u : Value), us[j]? = some u → arr[o + j]? = some u ∧ cellV u = true

mutual
def R (m : Mem) : D → List Nat → Value → Prop
  | .val x, bs, v => bs = [] ∧ v = x
  | .sl true sz rows, bs, v =>
    (∀ r ∈ rows, r.length = sz) ∧
    ((rows = [] ∧ bs = [] ∧ v = nilS) ∨
     ∃ (b c : Nat) (arr : Array Value) (t : Nat) (us : List Value) (bs' : List Nat), bs = b :: bs' ∧ v = .slice (some ⟨b, 0, none⟩) rows.length c ∧ rows.length ≤ c ∧ m.im b = false ∧
      m.w.heap[b]? = some (.cells arr t (0, 0)) ∧ arr.size = c * sz ∧ CellsAt arr 0 us ∧ us.length = rows.length * sz ∧ RLL m rows bs' us)
  | .sl false sz rows, bs, v =>
    (∀ r ∈ rows, r.length = sz) ∧ bs = [] ∧ ∃ (A : Option Addr) (c : Nat), v = .slice A rows.length c ∧ rows.length ≤ c ∧
      (rows = [] ∨ ∃ (b o : Nat) (arr : Array Value) (t : Nat) (fz : Nat × Nat) (us : List Value), A = some ⟨b, o, none⟩ ∧ m.im b = true ∧ m.w.heap[b]? = some (.cells arr t fz) ∧
        CellsAt arr o us ∧ us.length = rows.length * sz ∧ RLL m rows [] us)
  | .ag cells, bs, v => ∃ us : List Value, v = .agg us.toArray ∧ RL m cells bs us
  | .tp cells, bs, v => ∃ us : List Value, v = .tuple us.toArray ∧ RL m cells bs us
  | .rp cells, bs, v => bs = [] ∧ ∃ (b o : Nat) (arr : Array Value) (t : Nat) (fz : Nat × Nat) (us : List Value), v = ptr b o ∧ m.im b = true ∧ m.w.heap[b]? = some (.cells arr t fz) ∧
      CellsAt arr o us ∧ RL m cells [] us
  | .cl f caps, bs, v => ∃ us : List Value, v = .func (.func f) #[] us.toArray ∧ RL m caps bs us
def RL (m : Mem) : List D → List Nat → List Value → Prop
  | [], bs, us => bs = [] ∧ us = []
  | d :: ds, bs, us => ∃ (u : Value) (us' : List Value) (b1 b2 : List Nat), us = u :: us' ∧ bs = b1 ++ b2 ∧ R m d b1 u ∧ RL m ds b2 us'
def RLL (m : Mem) : List (List D) → List Nat → List Value → Prop
  | [], bs, us => bs = [] ∧ us = []
  | r :: rs, bs, us => ∃ (us1 us2 : List Value) (b1 b2 : List Nat), us = us1 ++ us2 ∧ bs = b1 ++ b2 ∧ RL m r b1 us1 ∧ RLL m rs b2 us2
end

/-- Nothing that is never written again has turned. -/
def MemLe (m m' : Mem) : Prop := m.w.heap.size ≤ m'.w.heap.size ∧ ∀ b, m.im b = true → m'.im b = true ∧ m'.w.heap[b]? = m.w.heap[b]?

theorem MemLe.refl (m : Mem) : MemLe m m := ⟨Nat.le_refl _, fun _ h => ⟨h, rfl⟩⟩
theorem MemLe.trans {a b c : Mem} (h : MemLe a b) (k : MemLe b c) : MemLe a c :=
  ⟨Nat.le_trans h.1 k.1, fun i hi => ⟨(k.2 i (h.2 i hi).1).1, ((k.2 i (h.2 i hi).1).2).trans (h.2 i hi).2⟩⟩

/-- Blocks that are as they were. -/
def KeepB (m m' : Mem) (bs : List Nat) : Prop := ∀ b ∈ bs, m'.im b = m.im b ∧ m'.w.heap[b]? = m.w.heap[b]?

theorem KeepB.nil (m m' : Mem) : KeepB m m' [] := fun _ h => by simp at h
theorem KeepB.left {m m' : Mem} {a b : List Nat} (h : KeepB m m' (a ++ b)) : KeepB m m' a := fun i hi => h i (List.mem_append_left _ hi)
theorem KeepB.right {m m' : Mem} {a b : List Nat} (h : KeepB m m' (a ++ b)) : KeepB m m' b := fun i hi => h i (List.mem_append_right _ hi)

mutual
theorem R_mono {m m' : Mem} (hm : MemLe m m') : ∀ (d : D) (bs : List Nat) (v : Value), KeepB m m' bs → R m d bs v → R m' d bs v
  | .val x, bs, v, _, h => by simpa only [R] using h
  | .sl true sz rows, bs, v, hk, h => by
    simp only [R] at h ⊢
    refine ⟨h.1, ?_⟩
    rcases h.2 with h | ⟨b, c, arr, t, us, bs', rfl, h2, h3, h4, h5, h6, h7, h8, h9⟩
    · exact .inl h
    · have hb := hk b (by simp)
      exact .inr ⟨b, c, arr, t, us, bs', rfl, h2, h3, hb.1.trans h4, hb.2.trans h5, h6, h7, h8, RLL_mono hm rows bs' us (fun i hi => hk i (by simp [hi])) h9⟩
  | .sl false sz rows, bs, v, hk, h => by
    simp only [R] at h ⊢
    obtain ⟨h0, h1, A, c, h2, h3, h4⟩ := h
    refine ⟨h0, h1, A, c, h2, h3, ?_⟩
    rcases h4 with h4 | ⟨b, o, arr, t, fz, us, h5, h6, h7, h8, h9, h10⟩
    · exact .inl h4
    · exact .inr ⟨b, o, arr, t, fz, us, h5, (hm.2 b h6).1, (hm.2 b h6).2.trans h7, h8, h9, RLL_mono hm rows [] us (KeepB.nil _ _) h10⟩
  | .ag cells, bs, v, hk, h => by
    simp only [R] at h ⊢
    obtain ⟨us, h1, h2⟩ := h
    exact ⟨us, h1, RL_mono hm cells bs us hk h2⟩
  | .tp cells, bs, v, hk, h => by
    simp only [R] at h ⊢
    obtain ⟨us, h1, h2⟩ := h
    exact ⟨us, h1, RL_mono hm cells bs us hk h2⟩
  | .rp cells, bs, v, hk, h => by
    simp only [R] at h ⊢
    obtain ⟨h0, b, o, arr, t, fz, us, h1, h2, h3, h4, h5⟩ := h
    exact ⟨h0, b, o, arr, t, fz, us, h1, (hm.2 b h2).1, (hm.2 b h2).2.trans h3, h4, RL_mono hm cells [] us (KeepB.nil _ _) h5⟩
  | .cl f caps, bs, v, hk, h => by
    simp only [R] at h ⊢
    obtain ⟨us, h1, h2⟩ := h
    exact ⟨us, h1, RL_mono hm caps bs us hk h2⟩
theorem RL_mono {m m' : Mem} (hm : MemLe m m') : ∀ (ds : List D) (bs : List Nat) (us : List Value), KeepB m m' bs → RL m ds bs us → RL m' ds bs us
  | [], bs, us, _, h => by simpa only [RL] using h
  | d :: ds, bs, us, hk, h => by
    simp only [RL] at h ⊢
    obtain ⟨u, us', b1, b2, h1, rfl, h3, h4⟩ := h
    exact ⟨u, us', b1, b2, h1, rfl, R_mono hm d b1 u hk.left h3, RL_mono hm ds b2 us' hk.right h4⟩
theorem RLL_mono {m m' : Mem} (hm : MemLe m m') : ∀ (rs : List (List D)) (bs : List Nat) (us : List Value), KeepB m m' bs → RLL m rs bs us → RLL m' rs bs us
  | [], bs, us, _, h => by simpa only [RLL] using h
  | r :: rs, bs, us, hk, h => by
    simp only [RLL] at h ⊢
    obtain ⟨us1, us2, b1, b2, h1, rfl, h3, h4⟩ := h
    exact ⟨us1, us2, b1, b2, h1, rfl, RL_mono hm r b1 us1 hk.left h3, RLL_mono hm rs b2 us2 hk.right h4⟩
end

/-- The same data, never to be written again. -/
def D.pl : D → D
  | .val v => .val v
  | .sl _ sz rows => .sl false sz (plLL rows)
  | .ag cells => .ag (plL cells)
  | .tp cells => .tp (plL cells)
  | .rp cells => .rp cells
  | .cl f caps => .cl f (plL caps)
where
  plL : List D → List D
    | [] => []
    | d :: ds => d.pl :: plL ds
  plLL : List (List D) → List (List D)
    | [] => []
    | r :: rs => plL r :: plLL rs

theorem plL_length : ∀ ds : List D, (D.pl.plL ds).length = ds.length
  | [] => rfl
  | d :: ds => by simp [D.pl.plL, plL_length ds]
theorem plLL_length : ∀ ds : List (List D), (D.pl.plLL ds).length = ds.length
  | [] => rfl
  | d :: ds => by simp [D.pl.plLL, plLL_length ds]
theorem plLL_sz {sz : Nat} : ∀ ds : List (List D), (∀ r ∈ ds, r.length = sz) → ∀ r ∈ D.pl.plLL ds, r.length = sz
  | [], _, r, h => by simp [D.pl.plLL] at h
  | d :: ds, h, r, hr => by
    simp only [D.pl.plLL, List.mem_cons] at hr
    rcases hr with rfl | hr
    · rw [plL_length]; exact h d (by simp)
    · exact plLL_sz ds (fun r hr => h r (by simp [hr])) r hr

/-- The memory with these blocks published. -/
def Mem.pub (m : Mem) (bs : List Nat) : Mem := ⟨m.w, fun b => m.im b || bs.contains b⟩

mutual
theorem R_pl {m m' : Mem} (hm : MemLe m m') : ∀ (d : D) (bs : List Nat) (v : Value), (∀ b ∈ bs, m'.im b = true ∧ m'.w.heap[b]? = m.w.heap[b]?) → R m d bs v → R m' d.pl [] v
  | .val x, bs, v, _, h => by simp only [R, D.pl] at h ⊢; exact ⟨trivial, h.2⟩
  | .sl true sz rows, bs, v, hk, h => by
    simp only [R, D.pl] at h ⊢
    refine ⟨plLL_sz _ h.1, trivial, ?_⟩
    rcases h.2 with ⟨rfl, rfl, rfl⟩ | ⟨b, c, arr, t, us, bs', rfl, h2, h3, h4, h5, h6, h7, h8, h9⟩
    · exact ⟨none, 0, rfl, by simp [D.pl.plLL], .inl rfl⟩
    · have hb := hk b (by simp)
      exact ⟨_, c, by rw [plLL_length]; exact h2, by rw [plLL_length]; exact h3, .inr ⟨b, 0, arr, t, (0, 0), us, rfl, hb.1, hb.2.trans h5, h7, by rw [plLL_length]; exact h8, RLL_pl hm rows bs' us (fun i hi => hk i (by simp [hi])) h9⟩⟩
  | .sl false sz rows, bs, v, hk, h => by
    simp only [R, D.pl] at h ⊢
    obtain ⟨h0, rfl, A, c, h2, h3, h4⟩ := h
    refine ⟨plLL_sz _ h0, trivial, A, c, by rw [plLL_length]; exact h2, by rw [plLL_length]; exact h3, ?_⟩
    rcases h4 with rfl | ⟨b, o, arr, t, fz, us, h5, h6, h7, h8, h9, h10⟩
    · exact .inl rfl
    · exact .inr ⟨b, o, arr, t, fz, us, h5, (hm.2 b h6).1, (hm.2 b h6).2.trans h7, h8, by rw [plLL_length]; exact h9, RLL_pl hm rows [] us (by simp) h10⟩
  | .ag cells, bs, v, hk, h => by
    simp only [R, D.pl] at h ⊢
    obtain ⟨us, h1, h2⟩ := h
    exact ⟨us, h1, RL_pl hm cells bs us hk h2⟩
  | .tp cells, bs, v, hk, h => by
    simp only [R, D.pl] at h ⊢
    obtain ⟨us, h1, h2⟩ := h
    exact ⟨us, h1, RL_pl hm cells bs us hk h2⟩
  | .rp cells, bs, v, hk, h => by
    have := R_mono hm (.rp cells) bs v (fun b hb => by simp only [R] at h; simp [h.1] at hb) h
    simp only [R, D.pl] at this ⊢
    exact ⟨trivial, this.2⟩
  | .cl f caps, bs, v, hk, h => by
    simp only [R, D.pl] at h ⊢
    obtain ⟨us, h1, h2⟩ := h
    exact ⟨us, h1, RL_pl hm caps bs us hk h2⟩
theorem RL_pl {m m' : Mem} (hm : MemLe m m') : ∀ (ds : List D) (bs : List Nat) (us : List Value), (∀ b ∈ bs, m'.im b = true ∧ m'.w.heap[b]? = m.w.heap[b]?) → RL m ds bs us → RL m' (D.pl.plL ds) [] us
  | [], bs, us, _, h => by simp only [RL, D.pl.plL] at h ⊢; exact ⟨trivial, h.2⟩
  | d :: ds, bs, us, hk, h => by
    simp only [RL, D.pl.plL] at h ⊢
    obtain ⟨u, us', b1, b2, h1, rfl, h3, h4⟩ := h
    exact ⟨u, us', [], [], h1, rfl, R_pl hm d b1 u (fun i hi => hk i (by simp [hi])) h3, RL_pl hm ds b2 us' (fun i hi => hk i (by simp [hi])) h4⟩
theorem RLL_pl {m m' : Mem} (hm : MemLe m m') : ∀ (rs : List (List D)) (bs : List Nat) (us : List Value), (∀ b ∈ bs, m'.im b = true ∧ m'.w.heap[b]? = m.w.heap[b]?) → RLL m rs bs us → RLL m' (D.pl.plLL rs) [] us
  | [], bs, us, _, h => by simp only [RLL, D.pl.plLL] at h ⊢; exact ⟨trivial, h.2⟩
  | r :: rs, bs, us, hk, h => by
    simp only [RLL, D.pl.plLL] at h ⊢
    obtain ⟨us1, us2, b1, b2, h1, rfl, h3, h4⟩ := h
    exact ⟨us1, us2, [], [], h1, rfl, RL_pl hm r b1 us1 (fun i hi => hk i (by simp [hi])) h3, RLL_pl hm rs b2 us2 (fun i hi => hk i (by simp [hi])) h4⟩
end

/-! ### parts of rows -/
theorem RL_length {m : Mem} : ∀ (ds : List D) (bs : List Nat) (us : List Value), RL m ds bs us → us.length = ds.length
  | [], _, _, h => by simp only [RL] at h; simp [h.2]
  | d :: ds, bs, us, h => by
    simp only [RL] at h
    obtain ⟨u, us', b1, b2, rfl, _, _, h4⟩ := h
    simp [RL_length ds b2 us' h4]

theorem RL_app {m : Mem} : ∀ (as ds : List D) (b1 b2 : List Nat) (us vs : List Value), RL m as b1 us → RL m ds b2 vs → RL m (as ++ ds) (b1 ++ b2) (us ++ vs)
  | [], ds, b1, b2, us, vs, h, k => by simp only [RL] at h; obtain ⟨rfl, rfl⟩ := h; simpa using k
  | a :: as, ds, b1, b2, us, vs, h, k => by
    simp only [RL] at h
    obtain ⟨u, us', c1, c2, rfl, rfl, h3, h4⟩ := h
    simp only [List.cons_append, RL]
    exact ⟨u, us' ++ vs, c1, c2 ++ b2, by simp, by simp, h3, RL_app as ds c2 b2 us' vs h4 k⟩

theorem RL_split {m : Mem} : ∀ (as ds : List D) (bs : List Nat) (us : List Value), RL m (as ++ ds) bs us → ∃ b1 b2 us1 us2, bs = b1 ++ b2 ∧ us = us1 ++ us2 ∧ RL m as b1 us1 ∧ RL m ds b2 us2
  | [], ds, bs, us, h => ⟨[], bs, [], us, rfl, rfl, by simp [RL], h⟩
  | a :: as, ds, bs, us, h => by
    simp only [List.cons_append, RL] at h
    obtain ⟨u, us', c1, c2, rfl, rfl, h3, h4⟩ := h
    obtain ⟨d1, d2, vs1, vs2, rfl, rfl, k1, k2⟩ := RL_split as ds c2 us' h4
    exact ⟨c1 ++ d1, d2, u :: vs1, vs2, by simp, by simp, by simp only [RL]; exact ⟨u, vs1, c1, d1, rfl, rfl, h3, k1⟩, k2⟩

/-- Data without owned blocks, cell by cell. -/
theorem RL_nil_iff {m : Mem} : ∀ (ds : List D) (us : List Value), RL m ds [] us ↔ us.length = ds.length ∧ ∀ (j : Nat) (d : D) (u : Value), ds[j]? = some d → us[j]? = some u → R m d [] u
  | [], us => by
    simp only [RL]
    constructor
    · rintro ⟨_, rfl⟩; simp
    · rintro ⟨h, _⟩; exact ⟨trivial, List.eq_nil_of_length_eq_zero h⟩
  | d :: ds, us => by
    simp only [RL]
    constructor
    · rintro ⟨u, us', b1, b2, rfl, hb, h3, h4⟩
      obtain ⟨rfl, rfl⟩ : b1 = [] ∧ b2 = [] := by simpa [eq_comm] using hb
      obtain ⟨k1, k2⟩ := (RL_nil_iff ds us').1 h4
      refine ⟨by simp [k1], fun j e x hj hx => ?_⟩
      cases j with
      | zero => simp at hj hx; subst hj; subst hx; exact h3
      | succ j => simp at hj hx; exact k2 j e x hj hx
    · rintro ⟨h1, h2⟩
      cases us with
      | nil => simp at h1
      | cons u us' =>
        exact ⟨u, us', [], [], rfl, rfl, h2 0 d u rfl rfl, (RL_nil_iff ds us').2 ⟨by simpa using h1, fun j e x hj hx => h2 (j + 1) e x (by simpa using hj) (by simpa using hx)⟩⟩

theorem RL_nil_length {m : Mem} {ds : List D} {us : List Value} (h : RL m ds [] us) : us.length = ds.length := RL_length ds [] us h
theorem RL_nil_take {m : Mem} {ds : List D} {us : List Value} (n : Nat) (h : RL m ds [] us) : RL m (ds.take n) [] (us.take n) := by
  rw [RL_nil_iff] at h ⊢
  refine ⟨by simp [h.1], fun j d u hj hu => ?_⟩
  rw [List.getElem?_take] at hj hu
  split at hj
  · rename_i hlt; rw [if_pos hlt] at hu; exact h.2 j d u hj hu
  · cases hj
theorem RL_nil_drop {m : Mem} {ds : List D} {us : List Value} (n : Nat) (h : RL m ds [] us) : RL m (ds.drop n) [] (us.drop n) := by
  rw [RL_nil_iff] at h ⊢
  refine ⟨by simp [h.1], fun j d u hj hu => ?_⟩
  rw [List.getElem?_drop] at hj hu
  exact h.2 _ d u hj hu
theorem RL_nil_get {m : Mem} {ds : List D} {us : List Value} (h : RL m ds [] us) {i : Nat} {d : D} (hi : ds[i]? = some d) : ∃ u, us[i]? = some u ∧ R m d [] u := by
  rw [RL_nil_iff] at h
  have hlt : i < us.length := by rw [h.1]; exact (List.getElem?_eq_some_iff.1 hi).1
  exact ⟨us[i], by simp [hlt], h.2 i d _ hi (by simp [hlt])⟩

theorem RLL_app {m : Mem} : ∀ (as ds : List (List D)) (b1 b2 : List Nat) (us vs : List Value), RLL m as b1 us → RLL m ds b2 vs → RLL m (as ++ ds) (b1 ++ b2) (us ++ vs)
  | [], ds, b1, b2, us, vs, h, k => by simp only [RLL] at h; obtain ⟨rfl, rfl⟩ := h; simpa using k
  | a :: as, ds, b1, b2, us, vs, h, k => by
    simp only [RLL] at h
    obtain ⟨u1, u2, c1, c2, rfl, rfl, h3, h4⟩ := h
    simp only [List.cons_append, RLL]
    exact ⟨u1, u2 ++ vs, c1, c2 ++ b2, by simp, by simp, h3, RLL_app as ds c2 b2 u2 vs h4 k⟩

theorem RLL_length {m : Mem} {sz : Nat} : ∀ (rs : List (List D)) (bs : List Nat) (us : List Value), (∀ r ∈ rs, r.length = sz) → RLL m rs bs us → us.length = rs.length * sz
  | [], _, _, _, h => by simp only [RLL] at h; simp [h.2]
  | r :: rs, bs, us, hsz, h => by
    simp only [RLL] at h
    obtain ⟨u1, u2, c1, c2, rfl, rfl, h3, h4⟩ := h
    have := RL_length r c1 u1 h3
    have := RLL_length rs c2 u2 (fun r hr => hsz r (by simp [hr])) h4
    have := hsz r (by simp)
    simp only [List.length_append, List.length_cons, Nat.add_mul, Nat.one_mul]; omega

/-- One row of many. -/
theorem RLL_row {m : Mem} {sz : Nat} : ∀ (rs : List (List D)) (bs : List Nat) (us : List Value), (∀ r ∈ rs, r.length = sz) → RLL m rs bs us → ∀ (i : Nat) (r : List D), rs[i]? = some r →
    ∃ b1 b2 b3 u1 u2 u3, bs = b1 ++ (b2 ++ b3) ∧ us = u1 ++ (u2 ++ u3) ∧ u1.length = i * sz ∧ u2.length = sz ∧ RLL m (rs.take i) b1 u1 ∧ RL m r b2 u2 ∧ RLL m (rs.drop (i + 1)) b3 u3
  | [], _, _, _, _, i, r, hi => by simp at hi
  | r0 :: rs, bs, us, hsz, h, i, r, hi => by
    simp only [RLL] at h
    obtain ⟨v1, v2, c1, c2, rfl, rfl, h3, h4⟩ := h
    have hl := RL_length r0 c1 v1 h3
    have h0 := hsz r0 (by simp)
    cases i with
    | zero =>
      simp only [List.getElem?_cons_zero, Option.some.injEq] at hi
      subst hi
      exact ⟨[], c1, c2, [], v1, v2, rfl, rfl, by simp, by omega, by simp [RLL], h3, by simpa using h4⟩
    | succ i =>
      simp only [List.getElem?_cons_succ] at hi
      obtain ⟨b1, b2, b3, u1, u2, u3, rfl, rfl, k3, k4, k5, k6, k7⟩ := RLL_row rs c2 v2 (fun r hr => hsz r (by simp [hr])) h4 i r hi
      refine ⟨c1 ++ b1, b2, b3, v1 ++ u1, u2, u3, by simp, by simp, by simp [k3, Nat.add_mul]; omega, k4, ?_, k6, by simpa using k7⟩
      simp only [List.take_succ_cons, RLL]
      exact ⟨v1, u1, c1, b1, rfl, rfl, h3, k5⟩

theorem RLL_nil_take {m : Mem} {sz : Nat} : ∀ (rs : List (List D)) (us : List Value) (n : Nat), (∀ r ∈ rs, r.length = sz) → RLL m rs [] us → RLL m (rs.take n) [] (us.take (n * sz))
  | [], us, n, _, h => by simp only [RLL] at h; simp [RLL, h.2]
  | r :: rs, us, 0, _, h => by simp [RLL]
  | r :: rs, us, n + 1, hsz, h => by
    simp only [RLL] at h
    obtain ⟨u1, u2, c1, c2, rfl, hb, h3, h4⟩ := h
    obtain ⟨rfl, rfl⟩ : c1 = [] ∧ c2 = [] := by simpa [eq_comm] using hb
    have hl := RL_length r [] u1 h3
    have h0 := hsz r (by simp)
    have e : (u1 ++ u2).take ((n + 1) * sz) = u1 ++ u2.take (n * sz) := by
      rw [List.take_append, List.take_of_length_le (by rw [Nat.add_mul]; omega)]
      congr 2; rw [Nat.add_mul]; omega
    rw [e, List.take_succ_cons]
    simp only [RLL]
    exact ⟨u1, _, [], [], rfl, rfl, h3, RLL_nil_take rs u2 n (fun r hr => hsz r (by simp [hr])) h4⟩
theorem RLL_nil_drop {m : Mem} {sz : Nat} : ∀ (rs : List (List D)) (us : List Value) (n : Nat), (∀ r ∈ rs, r.length = sz) → RLL m rs [] us → RLL m (rs.drop n) [] (us.drop (n * sz))
  | [], us, n, _, h => by simp only [RLL] at h; simp [RLL, h.2]
  | r :: rs, us, 0, _, h => by simpa using h
  | r :: rs, us, n + 1, hsz, h => by
    simp only [RLL] at h
    obtain ⟨u1, u2, c1, c2, rfl, hb, h3, h4⟩ := h
    obtain ⟨rfl, rfl⟩ : c1 = [] ∧ c2 = [] := by simpa [eq_comm] using hb
    have hl := RL_length r [] u1 h3
    have h0 := hsz r (by simp)
    have e : (u1 ++ u2).drop ((n + 1) * sz) = u2.drop (n * sz) := by
      rw [List.drop_append, List.drop_of_length_le (by rw [Nat.add_mul]; omega)]
      simp only [List.nil_append]
      congr 1; rw [Nat.add_mul]; omega
    rw [e, List.drop_succ_cons]
    exact RLL_nil_drop rs u2 n (fun r hr => hsz r (by simp [hr])) h4

theorem CellsAt.mid {arr : Array Value} {o : Nat} {a b c : List Value} (h : CellsAt arr o (a ++ (b ++ c))) : CellsAt arr (o + a.length) b := by
  intro j u hj
  have hlt := (List.getElem?_eq_some_iff.1 hj).1
  have := h (a.length + j) u (by rw [List.getElem?_append_right (by omega)]; simp [List.getElem?_append_left hlt, hj])
  rwa [← Nat.add_assoc] at this
theorem CellsAt.drop_ {arr : Array Value} {o : Nat} {a : List Value} (n : Nat) (h : CellsAt arr o a) : CellsAt arr (o + n) (a.drop n) := by
  intro j u hj
  rw [List.getElem?_drop] at hj
  have := h (n + j) u hj
  rwa [← Nat.add_assoc] at this
theorem CellsAt.take_ {arr : Array Value} {o : Nat} {a : List Value} (n : Nat) (h : CellsAt arr o a) : CellsAt arr o (a.take n) := by
  intro j u hj
  rw [List.getElem?_take] at hj
  split at hj
  · exact h j u hj
  · cases hj

/-- Tables: blocks that the program never writes, and what they hold. -/
class Tbl where
  tb : List (Nat × Array Value)
def Tab [Tbl] (m : Mem) : Prop := ∀ q ∈ Tbl.tb, m.im q.1 = true ∧ ∃ t fz, m.w.heap[q.1]? = some (.cells q.2 t fz)
theorem Tab.le [Tbl] {m m' : Mem} (h : Tab m) (k : MemLe m m') : Tab m' := fun q hq => by
  obtain ⟨h1, t, fz, h2⟩ := h q hq
  obtain ⟨k1, k2⟩ := k.2 _ h1
  exact ⟨k1, t, fz, k2.trans h2⟩

end Go.Proofs.YtcaemkcglflmnaaDoor.Vm
