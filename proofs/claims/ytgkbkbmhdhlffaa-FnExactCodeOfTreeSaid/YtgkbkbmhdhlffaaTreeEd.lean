/- CodeOfTree: edges as pairs and as a list of numbers; plain law. -/
import Derived.Test.YtgkbkbmhdhlffaaPruferT
import Derived.Test.YtgkbkbmhdhlffaaDegrees
namespace Go.Proofs.Ytgkbkbmhdhlffaa
open Go.RowKit
def flatI (E : List Ed) : List Int := E.flatMap fun e => [(e.1 : Int), (e.2 : Int)]
theorem flatI_nil : flatI [] = [] := rfl
theorem flatI_cons (e : Ed) (E : List Ed) : flatI (e :: E) = (e.1 : Int) :: (e.2 : Int) :: flatI E := rfl
theorem flatI_append (E F : List Ed) : flatI (E ++ F) = flatI E ++ flatI F := by simp [flatI]
theorem flatI_len (E : List Ed) : (flatI E).length = 2 * E.length := by
  induction E with
  | nil => rfl
  | cons e E ih => rw [flatI_cons, List.length_cons, List.length_cons, ih, List.length_cons]; omega
theorem flatI_0 {E : List Ed} {j : Nat} {e : Ed} (h : E[j]? = some e) : (flatI E)[2 * j]? = some (e.1 : Int) := by
  induction E generalizing j with
  | nil => simp at h
  | cons x E ih =>
    cases j with
    | zero =>
      simp only [List.getElem?_cons_zero, Option.some.injEq] at h
      subst h
      rfl
    | succ j =>
      rw [List.getElem?_cons_succ] at h
      rw [flatI_cons, show 2 * (j + 1) = 2 * j + 1 + 1 by omega, List.getElem?_cons_succ, List.getElem?_cons_succ]
      exact ih h
theorem flatI_1 {E : List Ed} {j : Nat} {e : Ed} (h : E[j]? = some e) : (flatI E)[2 * j + 1]? = some (e.2 : Int) := by
  induction E generalizing j with
  | nil => simp at h
  | cons x E ih =>
    cases j with
    | zero =>
      simp only [List.getElem?_cons_zero, Option.some.injEq] at h
      subst h
      rfl
    | succ j =>
      rw [List.getElem?_cons_succ] at h
      rw [flatI_cons, show 2 * (j + 1) + 1 = 2 * j + 1 + 1 + 1 by omega, List.getElem?_cons_succ, List.getElem?_cons_succ]
      exact ih h
def lexlt (a b : Ed) : Prop := a.1 < b.1 ∨ a.1 = b.1 ∧ a.2 < b.2
/-- Edges in order, each number below n. -/
structure EdOk (E : List Ed) (n : Nat) : Prop where
  lt : ∀ e ∈ E, e.1 < e.2 ∧ e.2 < n
  ord : E.Pairwise lexlt
theorem lexlt.trans {a b c : Ed} (h : lexlt a b) (k : lexlt b c) : lexlt a c := by
  unfold lexlt at *; omega
theorem EdOk.sub {E F : List Ed} {n : Nat} (h : EdOk E n) (hs : F.Sublist E) : EdOk F n := ⟨fun e he => h.lt e (hs.subset he), h.ord.sublist hs⟩
theorem EdOk.gr {E : List Ed} {n : Nat} (h : EdOk E n) : Gr E (List.range n) n where
  nd := List.nodup_range
  lt := fun v hv => List.mem_range.1 hv
  ends := fun e he => by
    have := h.lt e he
    exact ⟨List.mem_range.2 (by omega), List.mem_range.2 this.2, by omega⟩
/-- Edges by the test are such pairs. -/
theorem areEdges_pairs {xs : List Int} {n : Int} (h : areEdges xs n = true) : ∃ E, xs = flatI E ∧ EdOk E n.toNat ∧ E.length ≤ 256 ∧ 1 ≤ n ∧ n ≤ 64 := by
  have hin := fun i x (hx : xs[i]? = some x) => areEdges_in h hx
  unfold areEdges at h
  simp only [Bool.and_eq_true, decide_eq_true_eq, List.all_eq_true, List.mem_range] at h
  obtain ⟨⟨⟨h1, h2⟩, h3⟩, h4⟩ := h
  have hn := inB_true h1
  obtain ⟨E, hE⟩ : ∃ E : List Ed, E = (List.range (xs.length / 2)).map fun i => ((xs.getD (2 * i) 0).toNat, (xs.getD (2 * i + 1) 0).toNat) := ⟨_, rfl⟩
  have hl : E.length = xs.length / 2 := by rw [hE]; simp
  have hEj : ∀ j, j < xs.length / 2 → E[j]? = some ((xs.getD (2 * j) 0).toNat, (xs.getD (2 * j + 1) 0).toNat) := fun j hj => by rw [hE]; simp [hj]
  have hx : ∀ i, i < xs.length → xs[i]? = some (xs.getD i 0) ∧ 0 ≤ xs.getD i 0 ∧ xs.getD i 0 < n := fun i hi => by
    have e : xs[i]? = some (xs[i]'hi) := List.getElem?_eq_getElem hi
    have e2 : xs.getD i 0 = xs[i]'hi := by rw [List.getD_eq_getElem?_getD, e]; rfl
    rw [e2]
    exact ⟨e, hin i _ e⟩
  have hok : ∀ j, j < xs.length / 2 → xs.getD (2 * j) 0 < xs.getD (2 * j + 1) 0 ∧ (0 < j → lexB (some (edgeAt xs (j - 1))) (edgeAt xs j) = true) := fun j hj => by
    have := h4 j hj
    unfold okAt edgeOk at this
    simp only [Bool.and_eq_true] at this
    refine ⟨?_, fun h0 => ?_⟩
    · have := inB_true this.1.2
      unfold edgeAt at this
      simp only at this
      omega
    · obtain ⟨i, rfl⟩ : ∃ i, j = i + 1 := ⟨j - 1, by omega⟩
      exact this.2
  refine ⟨E, ?_, ⟨?_, ?_⟩, by omega, hn.1, hn.2⟩
  · apply List.ext_getElem?
    intro i
    by_cases hi : i < xs.length
    · rw [(hx i hi).1]
      have hj : i / 2 < xs.length / 2 := by omega
      have hi0 := (hx i hi).2
      by_cases hm : i % 2 = 0
      · have := flatI_0 (hEj (i / 2) hj)
        rw [show 2 * (i / 2) = i by omega] at this
        rw [this]
        simp only [Option.some.injEq]
        omega
      · have := flatI_1 (hEj (i / 2) hj)
        rw [show 2 * (i / 2) + 1 = i by omega] at this
        rw [this]
        simp only [Option.some.injEq]
        omega
    · rw [List.getElem?_eq_none (by omega), List.getElem?_eq_none (by rw [flatI_len, hl]; omega)]
  · intro e he
    obtain ⟨j, hj⟩ := List.mem_iff_getElem?.1 he
    have hjl : j < xs.length / 2 := by rw [← hl]; exact (List.getElem?_eq_some_iff.1 hj).1
    rw [hEj j hjl] at hj
    injection hj with hj
    subst hj
    have a := hx (2 * j) (by omega)
    have b := hx (2 * j + 1) (by omega)
    have c := (hok j hjl).1
    simp only
    omega
  · have hstep : ∀ j, j + 1 < E.length → ∀ a b, E[j]? = some a → E[j + 1]? = some b → lexlt a b := fun j hj a b ha hb => by
      rw [hEj j (by omega)] at ha
      rw [hEj (j + 1) (by omega)] at hb
      injection ha with ha
      injection hb with hb
      subst ha hb
      have := (hok (j + 1) (by omega)).2 (by omega)
      rw [Nat.add_sub_cancel] at this
      have a0 := hx (2 * j) (by omega)
      have a1 := hx (2 * j + 1) (by omega)
      have b0 := hx (2 * (j + 1)) (by omega)
      have b1 := hx (2 * (j + 1) + 1) (by omega)
      unfold lexB edgeAt at this
      simp only [Bool.or_eq_true, decide_eq_true_eq] at this
      unfold lexlt
      simp only
      omega
    rw [List.pairwise_iff_getElem]
    intro i j hi hj hij
    have key : ∀ d i, (h1 : i + d + 1 < E.length) → lexlt (E[i]'(by omega)) (E[i + d + 1]'h1) := by
      intro d
      induction d with
      | zero => intro i h1; exact hstep i h1 _ _ (List.getElem?_eq_getElem _) (List.getElem?_eq_getElem _)
      | succ d ih =>
        intro i h1
        exact (ih i (by omega)).trans (hstep (i + d + 1) (by omega) _ _ (List.getElem?_eq_getElem _) (List.getElem?_eq_getElem _))
    have := key (j - i - 1) i (by omega)
    have e : i + (j - i - 1) + 1 = j := by omega
    simpa [e] using this
/-- Such pairs are edges by the test. -/
theorem areEdges_flat {E : List Ed} {n : Nat} (h : EdOk E n) (hl : E.length ≤ 256) (h1 : 1 ≤ n) (h2 : n ≤ 64) : areEdges (flatI E) n = true := by
  have hlen := flatI_len E
  have hd : ∀ j e, E[j]? = some e → edgeAt (flatI E) j = ((e.1 : Int), (e.2 : Int)) := fun j e he => edgeAt_of (flatI_0 he) (flatI_1 he)
  refine areEdges_yes (inB_mk (by omega)) (by omega) (by omega) ?_
  intro k hk
  have hkE : k < E.length := by omega
  have hk0 : E[k]? = some E[k] := List.getElem?_eq_getElem hkE
  have hlt := h.lt _ (List.getElem_mem hkE)
  unfold okAt edgeOk
  rw [hd k _ hk0]
  simp only [Bool.and_eq_true]
  refine ⟨⟨inB_mk (by omega), inB_mk (by omega)⟩, ?_⟩
  cases k with
  | zero => rfl
  | succ k =>
    have hk1 : E[k]? = some (E[k]'(by omega)) := List.getElem?_eq_getElem _
    have hp := List.pairwise_iff_getElem.1 h.ord k (k + 1) (by omega) hkE (by omega)
    unfold lexlt at hp
    show lexB (some (edgeAt (flatI E) k)) _ = true
    rw [hd k _ hk1]
    unfold lexB
    simp only [Bool.or_eq_true, decide_eq_true_eq]
    omega
theorem degRow_get {n : Nat} : ∀ (xs : List Int), (∀ x ∈ xs, 0 ≤ x ∧ x < (n : Int)) → ∀ v, v < n → (degRow n xs).getD v 0 = (xs.count (v : Int) : Int) := by
  have key : ∀ (xs row : List Int), row.length = n → (∀ x ∈ xs, 0 ≤ x ∧ x < (n : Int)) → ∀ v, v < n → (xs.foldl addAt row).getD v 0 = row.getD v 0 + (xs.count (v : Int) : Int) := by
    intro xs
    induction xs with
    | nil => intro row _ _ v _; simp
    | cons x xs ih =>
      intro row hr hx v hv
      have hx0 := hx x (List.mem_cons_self ..)
      rw [List.foldl_cons, ih _ (by simp [addAt, hr]) (fun y hy => hx y (List.mem_cons_of_mem _ hy)) v hv, List.count_cons]
      have : (addAt row x).getD v 0 = row.getD v 0 + (if (x == (v : Int)) = true then 1 else 0) := by
        unfold addAt
        simp only [List.getD_eq_getElem?_getD, List.getElem?_set]
        by_cases e : x.toNat = v
        · have e2 : x = (v : Int) := by omega
          rw [if_pos e, if_pos (by omega), e2]
          simp
        · have e2 : ¬ x = (v : Int) := by omega
          rw [if_neg e]
          simp [e2]
      rw [this]
      split <;> simp_all <;> omega
  intro xs hx v hv
  unfold degRow
  rw [key xs _ (by simp) hx v hv]
  simp [hv]
theorem count_flat {E : List Ed} {n : Nat} (h : EdOk E n) (v : Nat) : (flatI E).count (v : Int) = deg E v := by
  unfold deg
  have hlt := h.lt
  clear h
  induction E with
  | nil => rfl
  | cons e E ih =>
    have he := hlt e (List.mem_cons_self ..)
    rw [flatI_cons, List.count_cons, List.count_cons, ih (fun x hx => hlt x (List.mem_cons_of_mem _ hx)), List.countP_cons]
    by_cases h1 : e.1 = v
    · have h2 : e.2 ≠ v := by omega
      have i2 : ¬ (e.2 : Int) = (v : Int) := by omega
      simp [touch, h1, h2, i2]
    · have i1 : ¬ (e.1 : Int) = (v : Int) := by omega
      by_cases h2 : e.2 = v
      · simp [touch, h1, h2, i1]
      · have i2 : ¬ (e.2 : Int) = (v : Int) := by omega
        simp [touch, h1, h2, i1, i2]
theorem flat_in {E : List Ed} {n : Nat} (h : EdOk E n) : ∀ x ∈ flatI E, 0 ≤ x ∧ x < (n : Int) := by
  intro x hx
  unfold flatI at hx
  rw [List.mem_flatMap] at hx
  obtain ⟨e, he, hx⟩ := hx
  have := h.lt e he
  simp only [List.mem_cons, List.not_mem_nil, or_false] at hx
  omega
/-- The degrees as the program finds them. -/
theorem degRow_flat {E : List Ed} {n : Nat} (h : EdOk E n) (v : Nat) (hv : v < n) : (degRow n (flatI E)).getD v 0 = (deg E v : Int) := by
  rw [degRow_get _ (flat_in h) v hv, count_flat h]
end Go.Proofs.Ytgkbkbmhdhlffaa
