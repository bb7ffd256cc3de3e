/- Lists of lists: a slice of the call's own whose elements are slices of the call's own, each in a block for itself. -/
import Derived.Test.YtgemcjcghnpmdaaRange
import Derived.Test.YtgemcjcghnpmdaaShapes
namespace Go.Proofs.Ytgemcjcghnpmdaa
open Go.RowKit
/-- Nothing has changed but blocks of which P is true, and blocks behind. -/
structure Chg (P : Nat → Prop) (w w' : World) : Prop where
  os : w'.os = w.os
  tape : w'.tape = w.tape
  output : w'.output = w.output
  size : w.heap.size ≤ w'.heap.size
  block : ∀ k, k < w.heap.size → ¬ P k → w'.heap[k]? = w.heap[k]?
section
variable {P Q : Nat → Prop} {w w' w'' : World}
theorem Chg.refl (w : World) : Chg P w w := ⟨rfl, rfl, rfl, Nat.le_refl _, fun _ _ _ => rfl⟩
theorem Chg.trans (h : Chg P w w') (k : Chg P w' w'') : Chg P w w'' :=
  ⟨k.os.trans h.os, k.tape.trans h.tape, k.output.trans h.output, Nat.le_trans h.size k.size, fun i hi hn => (k.block i (Nat.lt_of_lt_of_le hi h.size) hn).trans (h.block i hi hn)⟩
theorem Chg.of_grown {row : Option Nat} (h : w.grownBy w' row) (hr : ∀ k, row = some k → P k) : Chg P w w' :=
  ⟨h.os, h.tape, h.output, h.size, fun k hk hn => h.block k hk (fun e => hn (hr k e.symm))⟩
theorem Chg.of_below {B : Nat} (h : Below B w w') (hP : ∀ k, B ≤ k → P k) : Chg P w w' :=
  ⟨h.os, h.tape, h.output, h.size, fun k _ hn => h.block k (Nat.lt_of_not_le fun e => hn (hP k e))⟩
theorem Chg.of_drewN (n : Nat) : Chg P w (w.drewN n) := ⟨rfl, rfl, rfl, Nat.le_refl _, fun _ _ _ => rfl⟩
theorem Chg.weak (h : Chg P w w') (hPQ : ∀ k, P k → Q k) : Chg Q w w' :=
  ⟨h.os, h.tape, h.output, h.size, fun k hk hn => h.block k hk fun e => hn (hPQ k e)⟩
theorem Below.chg {B : Nat} (hb : Below B w w') (h : Chg P w' w'') (hB : B ≤ w.heap.size) (hP : ∀ k, P k → B ≤ k) : Below B w w'' :=
  ⟨h.os.trans hb.os, h.tape.trans hb.tape, h.output.trans hb.output, Nat.le_trans hb.size h.size, fun k hk => (h.block k (by have := hb.size; omega) (fun e => by have := hP k e; omega)).trans (hb.block k hk)⟩
theorem Rd.chg {B n : Nat} {A : Option Addr} {xs : List Value} (h : Rd w B A n xs) (hc : Chg P w w') (hB : B ≤ w.heap.size) (hP : ∀ k, P k → B ≤ k) : Rd w' B A n xs :=
  h.keep fun p hp => World.cell?_of_block (hc.block p.block (by omega) (fun e => by have := hP _ e; omega))
theorem Own.chg {base : Nat} {e : TypeId} {v : Value} {xs : List Value} (h : Own w base e v xs) (hc : Chg P w w') (hP : ∀ k, v.ownBlock = some k → ¬ P k) : Own w' base e v xs := by
  refine ⟨h.1, ?_⟩
  rcases h.2 with hn | ⟨g, cap, cur, hv, h1, hg, rest⟩
  · exact .inl hn
  · refine .inr ⟨g, cap, cur, hv, h1, ?_, rest⟩
    rw [hc.block g (Array.getElem?_eq_some_iff.1 hg).1 (hP g (by rw [hv]; rfl))]
    exact hg
end
/-- A list of lists of the call's own: vs are the inner slices; all blocks are such that P. -/
structure OwnVs (w : World) (P : Nat → Prop) (base : Nat) (v : Value) (vs : List Value) (Ls : List (List Int)) : Prop where
  len : vs.length = Ls.length
  outer : Own w base 31 v vs
  inner : ∀ (i : Nat) (u : Value) (L : List Int), vs[i]? = some u → Ls[i]? = some L → Own w base 2 u (i64s L)
  blk : ∀ k, v.ownBlock = some k → P k
  blks : ∀ (i : Nat) (u : Value), vs[i]? = some u → ∀ k, u.ownBlock = some k → P k
  out : ∀ (i : Nat) (u : Value), vs[i]? = some u → Apart v u
  each : ∀ (i j : Nat) (u u' : Value), i ≠ j → vs[i]? = some u → vs[j]? = some u' → Apart u u'
def OwnLL (w : World) (P : Nat → Prop) (base : Nat) (v : Value) (Ls : List (List Int)) : Prop := ∃ vs, OwnVs w P base v vs Ls
section
variable {P Q : Nat → Prop} {w w' : World} {base : Nat} {v : Value} {vs : List Value} {Ls : List (List Int)}
theorem get_of_len {α β : Type} {xs : List α} {ys : List β} (h : xs.length = ys.length) {i : Nat} {x : α} (hx : xs[i]? = some x) : ∃ y, ys[i]? = some y := by
  have := (List.getElem?_eq_some_iff.1 hx).1
  exact ⟨ys[i]'(by omega), List.getElem?_eq_getElem _⟩
theorem OwnVs.chg (h : OwnVs w P base v vs Ls) (hc : Chg Q w w') (hP : ∀ k, k < w.heap.size → P k → ¬ Q k) : OwnVs w' P base v vs Ls where
  len := h.len
  outer := h.outer.chg hc fun k hk => hP k (h.outer.lt k hk).2 (h.blk k hk)
  inner := fun i u L hu hL => (h.inner i u L hu hL).chg hc fun k hk => hP k ((h.inner i u L hu hL).lt k hk).2 (h.blks i u hu k hk)
  blk := h.blk
  blks := h.blks
  out := h.out
  each := h.each
theorem OwnVs.weak (h : OwnVs w P base v vs Ls) (hP : ∀ k, base ≤ k → k < w.heap.size → P k → Q k) : OwnVs w Q base v vs Ls where
  len := h.len
  outer := h.outer
  inner := h.inner
  blk := fun k hk => hP k (h.outer.lt k hk).1 (h.outer.lt k hk).2 (h.blk k hk)
  blks := fun i u hu k hk => by
    obtain ⟨L, hL⟩ := get_of_len h.len hu
    have := (h.inner i u L hu hL).lt k hk
    exact hP k this.1 this.2 (h.blks i u hu k hk)
  out := h.out
  each := h.each
theorem OwnVs.base_le (h : OwnVs w P base v vs Ls) {b : Nat} (hb : b ≤ base) : OwnVs w P b v vs Ls where
  len := h.len
  outer := h.outer.base_le hb
  inner := fun i u L hu hL => (h.inner i u L hu hL).base_le hb
  blk := h.blk
  blks := h.blks
  out := h.out
  each := h.each
theorem OwnVs.drewN (h : OwnVs w P base v vs Ls) (n : Nat) : OwnVs (w.drewN n) P base v vs Ls := ⟨h.len, h.outer, h.inner, h.blk, h.blks, h.out, h.each⟩
/-- An inner list has changed. -/
theorem OwnVs.setAt (h : OwnVs w P base v vs Ls) {i : Nat} {u : Value} {L : List Int} (hu : vs[i]? = some u) (hg : w.grownBy w' u.ownBlock) (hL : Own w' base 2 u (i64s L)) : OwnVs w' P base v vs (Ls.set i L) where
  len := by rw [List.length_set]; exact h.len
  outer := h.outer.grown hg (h.out i u hu)
  inner := fun j u' L' hu' hL' => by
    rw [List.getElem?_set] at hL'
    by_cases e : i = j
    · subst e
      have hlt := (List.getElem?_eq_some_iff.1 hu).1
      rw [if_pos rfl, if_pos (by rw [← h.len]; exact hlt)] at hL'
      injection hL' with e1
      rw [hu] at hu'
      injection hu' with e2
      subst e1 e2
      exact hL
    · rw [if_neg e] at hL'
      exact (h.inner j u' L' hu' hL').grown hg (h.each j i u' u (fun e' => e e'.symm) hu' hu)
  blk := h.blk
  blks := h.blks
  out := h.out
  each := h.each
theorem OwnLL.chg (h : OwnLL w P base v Ls) (hc : Chg Q w w') (hP : ∀ k, k < w.heap.size → P k → ¬ Q k) : OwnLL w' P base v Ls := by
  obtain ⟨vs, h⟩ := h; exact ⟨vs, h.chg hc hP⟩
theorem OwnLL.weak (h : OwnLL w P base v Ls) (hP : ∀ k, base ≤ k → k < w.heap.size → P k → Q k) : OwnLL w Q base v Ls := by
  obtain ⟨vs, h⟩ := h; exact ⟨vs, h.weak hP⟩
theorem OwnLL.base_le (h : OwnLL w P base v Ls) {b : Nat} (hb : b ≤ base) : OwnLL w P b v Ls := by
  obtain ⟨vs, h⟩ := h; exact ⟨vs, h.base_le hb⟩
theorem OwnLL.drewN (h : OwnLL w P base v Ls) (n : Nat) : OwnLL (w.drewN n) P base v Ls := by
  obtain ⟨vs, h⟩ := h; exact ⟨vs, h.drewN n⟩
theorem OwnLL.shape (h : OwnLL w P base v Ls) : ∃ A c, v = .slice A Ls.length c ∧ Hid (Ls.length ≤ c ∧ c ≤ maxLen) := by
  obtain ⟨vs, h⟩ := h
  obtain ⟨A, c, rfl, h1, h2⟩ := h.outer.shape
  exact ⟨A, c, by rw [h.len], by rw [← h.len]; exact ⟨h1, h2⟩⟩
theorem OwnLL.none_ (w : World) (P : Nat → Prop) (base : Nat) : OwnLL w P base (.slice none 0 0) [] :=
  ⟨[], { len := rfl
         outer := own_none _ _ _
         inner := fun i u L hu => by simp at hu
         blk := fun k hk => by simp [Value.ownBlock] at hk
         blks := fun i u hu => by simp at hu
         out := fun i u hu => by simp at hu
         each := fun i j u u' _ hu => by simp at hu }⟩
theorem OwnVs.new_ (w : World) (hb : base ≤ w.heap.size) (hP : P w.heap.size) : OwnVs (w.alloc (.cells #[] 31)) P base (.slice (some ⟨w.heap.size, 0, none⟩) 0 0) [] [] where
  len := rfl
  outer := own_new w _ hb
  inner := fun i u L hu => by simp at hu
  blk := fun k hk => by cases hk; exact hP
  blks := fun i u hu => by simp at hu
  out := fun i u hu => by simp at hu
  each := fun i j u u' _ hu => by simp at hu
theorem snoc_get {α : Type} {xs : List α} {x y : α} {i : Nat} (h : (xs ++ [x])[i]? = some y) : xs[i]? = some y ∨ i = xs.length ∧ y = x := by
  by_cases hi : i < xs.length
  · rw [List.getElem?_append_left hi] at h; exact .inl h
  · have h1 := (List.getElem?_eq_some_iff.1 h).1
    rw [List.length_append, List.length_singleton] at h1
    obtain rfl : i = xs.length := by omega
    rw [List.getElem?_append_right (Nat.le_refl _)] at h
    simp at h
    exact .inr ⟨rfl, h.symm⟩
theorem OwnVs.snoc {u v' : Value} {L : List Int} (h : OwnVs w P base v vs Ls) (hu : Own w base 2 u (i64s L)) (hap : Apart v u) (hapi : ∀ (i : Nat) (u' : Value), vs[i]? = some u' → Apart u' u)
    (hv' : Own w' base 31 v' (vs ++ [u])) (hg : w.grownBy w' v.ownBlock) (hor : v'.ownBlock = v.ownBlock ∨ ∃ k, v'.ownBlock = some k ∧ w.heap.size ≤ k) (hP : ∀ k, w.heap.size ≤ k → P k) (hPu : ∀ k, u.ownBlock = some k → P k) :
    OwnVs w' P base v' (vs ++ [u]) (Ls ++ [L]) where
  len := by rw [List.length_append, List.length_append, h.len]; rfl
  outer := hv'
  inner := fun i x L' hx hL' => by
    rcases snoc_get hx with hx1 | ⟨hi, rfl⟩
    · obtain ⟨L2, hL2⟩ := get_of_len h.len hx1
      have : L' = L2 := by
        rcases snoc_get hL' with h1 | ⟨h1, _⟩
        · rw [h1] at hL2; injection hL2
        · have := (List.getElem?_eq_some_iff.1 hL2).1; omega
      subst this
      exact (h.inner i x L' hx1 hL2).grown hg (h.out i x hx1).symm
    · have : L' = L := by
        rcases snoc_get hL' with h1 | ⟨_, h1⟩
        · have := (List.getElem?_eq_some_iff.1 h1).1; have := h.len; omega
        · exact h1
      subst this
      exact hu.grown hg hap.symm
  blk := fun k hk => by
    rcases hor with h1 | ⟨j, h1, h2⟩
    · exact h.blk k (h1 ▸ hk)
    · rw [h1] at hk; injection hk with hk; subst hk; exact hP _ h2
  blks := fun i x hx k hk => by
    rcases snoc_get hx with hx1 | ⟨_, rfl⟩
    · exact h.blks i x hx1 k hk
    · exact hPu k hk
  out := fun i x hx => by
    rcases snoc_get hx with hx1 | ⟨_, rfl⟩
    · obtain ⟨L2, hL2⟩ := get_of_len h.len hx1
      exact ((h.inner i x L2 hx1 hL2).apart_grown (h.out i x hx1).symm hor).symm
    · exact (hu.apart_grown hap.symm hor).symm
  each := fun i j x x' hij hx hx' => by
    rcases snoc_get hx with hx1 | ⟨hi, rfl⟩
    · rcases snoc_get hx' with hx2 | ⟨hj, rfl⟩
      · exact h.each i j x x' hij hx1 hx2
      · exact hapi i x hx1
    · rcases snoc_get hx' with hx2 | ⟨hj, rfl⟩
      · exact (hapi j x' hx2).symm
      · omega
/-- An element is read. -/
theorem OwnVs.at_ {A : Option Addr} {n c i : Nat} {L : List Int} (h : OwnVs w P base (.slice A n c) vs Ls) (hL : Ls[i]? = some L) :
    ∃ (g : Nat) (u : Value) (A' : Option Addr) (c' : Nat), A = some ⟨g, 0, none⟩ ∧ vs[i]? = some u ∧ u = .slice A' L.length c' ∧ w.cell? ⟨g, i, none⟩ = some (.slice A' L.length c') ∧ Own w base 2 (.slice A' L.length c') (i64s L) := by
  have hi : i < vs.length := by have := (List.getElem?_eq_some_iff.1 hL).1; have := h.len; omega
  have hu : vs[i]? = some vs[i] := List.getElem?_eq_getElem hi
  have ho := h.inner i _ L hu hL
  obtain ⟨A', c', hv, h1⟩ := ho.shapeI
  have h' := h.outer
  unfold Own at h'
  rcases h'.2 with ⟨_, h0⟩ | ⟨g, cap, cur, hv', _, hg, hle, _, _, ht⟩
  · omega
  · simp only [Value.slice.injEq] at hv'
    obtain ⟨rfl, rfl, rfl⟩ := hv'
    refine ⟨g, vs[i], A', c', rfl, hu, hv, ?_, by rw [← hv]; exact ho⟩
    rw [h'.cellAt i (by omega), hu, hv]
end
end Go.Proofs.Ytgemcjcghnpmdaa
