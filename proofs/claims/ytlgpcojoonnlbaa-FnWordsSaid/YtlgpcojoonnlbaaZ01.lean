/- Texts that stand side by side: Meet, MeetW, MeetP. -/
import Derived.Test.YtlgpcojoonnlbaaSortI
import Derived.Test.YtlgpcojoonnlbaaSmall
section
/- MeetingsIn: plain law: how many numbers of a list are equal to one before them. -/
namespace Go.Proofs.Ytlgpcojoonnlbaa
/-- Numbers equal to one before them, 'pre' standing before the list. -/
def seenN (pre : List Int) : List Int → Nat
  | [] => 0
  | x :: xs => (if x ∈ pre then 1 else 0) + seenN (pre ++ [x]) xs
def eqN (l : List Int) : Nat := seenN [] l
/-- Different numbers of a list. -/
def distN : List Int → Nat
  | [] => 0
  | x :: xs => (if x ∈ xs then 0 else 1) + distN xs
theorem distN_perm {a b : List Int} (h : a.Perm b) : distN a = distN b := by
  induction h with
  | nil => rfl
  | @cons x l1 l2 h ih =>
    unfold distN
    rw [ih]
    by_cases hx : x ∈ l1
    · rw [if_pos hx, if_pos (h.mem_iff.1 hx)]
    · rw [if_neg hx, if_neg (fun e => hx (h.mem_iff.2 e))]
  | swap x y l =>
    simp only [distN, List.mem_cons]
    by_cases hxy : x = y
    · subst hxy; rfl
    · have hyx : ¬ y = x := fun e => hxy e.symm
      simp only [hxy, hyx, false_or]
      omega
  | trans _ _ h1 h2 => exact h1.trans h2
theorem seenN_snoc (pre l : List Int) (x : Int) : seenN pre (l ++ [x]) = seenN pre l + (if x ∈ pre ++ l then 1 else 0) := by
  induction l generalizing pre with
  | nil => simp [seenN]
  | cons y l ih =>
    rw [List.cons_append, seenN, ih, seenN, List.append_assoc, List.singleton_append]
    omega
theorem eqN_rev (l : List Int) : eqN l.reverse + distN l.reverse = l.length := by
  induction l with
  | nil => rfl
  | cons x l ih =>
    have hp : distN (l.reverse ++ [x]) = distN (x :: l.reverse) := distN_perm (List.perm_append_singleton x l.reverse)
    rw [List.reverse_cons, hp]
    unfold eqN at ih ⊢
    rw [seenN_snoc, List.nil_append, distN, List.length_cons]
    by_cases hx : x ∈ l.reverse
    · rw [if_pos hx, if_pos hx]; omega
    · rw [if_neg hx, if_neg hx]; omega
theorem eqN_dist (l : List Int) : eqN l + distN l = l.length := by
  have := eqN_rev l.reverse
  rwa [List.reverse_reverse, List.length_reverse] at this
theorem eqN_perm {a b : List Int} (h : a.Perm b) : eqN a = eqN b := by
  have h1 := eqN_dist a
  have h2 := eqN_dist b
  have h3 := distN_perm h
  have h4 := h.length_eq
  omega
/-- Runs of equal neighbours, each once. -/
def compL : List Int → List Int
  | [] => []
  | [x] => [x]
  | x :: y :: ys => if x = y then compL (y :: ys) else x :: compL (y :: ys)
theorem compL_len {l : List Int} (h : l.Pairwise (fun a b => a ≤ b)) : (compL l).length = distN l := by
  induction l with
  | nil => rfl
  | cons x l ih =>
    cases l with
    | nil => simp [compL, distN]
    | cons y ys =>
      rw [List.pairwise_cons] at h
      have ih' := ih h.2
      have hxy : x ≤ y := h.1 y (by simp)
      have hys : ∀ z ∈ ys, y ≤ z := (List.pairwise_cons.1 h.2).1
      rw [compL, distN]
      by_cases e : x = y
      · subst e
        rw [if_pos rfl, if_pos (by simp), ih', Nat.zero_add]
      · have hn : ¬ x ∈ y :: ys := by
          intro hm
          rcases List.mem_cons.1 hm with h1 | h1
          · exact e h1
          · have := hys x h1; omega
        rw [if_neg e, if_neg hn, List.length_cons, ih']
        omega
theorem sortedI_perm' (xs : List Int) : (sortedI xs).Perm xs := List.mergeSort_perm _ _
theorem sortedI_sorted' (xs : List Int) : (sortedI xs).Pairwise (fun a b => a ≤ b) := by
  have := List.pairwise_mergeSort (le := fun (x y : Int) => decide (x ≤ y)) (by intro a b c; simp; omega) (by intro a b; simp; omega) xs
  simpa [sortedI] using this
theorem meet_plain (xs : List Int) : eqN xs + (compL (sortedI xs)).length = xs.length := by
  rw [compL_len (sortedI_sorted' xs), distN_perm (sortedI_perm' xs)]
  exact eqN_dist xs
theorem eqN_sorted (xs : List Int) : eqN (sortedI xs) = eqN xs := eqN_perm (sortedI_perm' xs)
end Go.Proofs.Ytlgpcojoonnlbaa
end
section
/- MeetingsIn: walks of the helpers. -/
namespace Go.Proofs.Ytlgpcojoonnlbaa
open Go.RowKit
set_option maxRecDepth 100000
theorem seenN_split (pre l : List Int) : ∀ l2, seenN pre (l ++ l2) = seenN pre l + seenN (pre ++ l) l2 := by
  intro l2
  induction l generalizing pre with
  | nil => simp [seenN]
  | cons y l ih => rw [List.cons_append, seenN, ih, seenN, List.append_assoc, List.singleton_append]; omega
theorem eqN_take {xs : List Int} {k : Nat} {x : Int} (h : xs[k]? = some x) : eqN (xs.take (k + 1)) = eqN (xs.take k) + (if x ∈ xs.take k then 1 else 0) := by
  unfold eqN
  rw [List.take_add_one, h]
  show seenN [] (xs.take k ++ [x]) = _
  rw [seenN_snoc, List.nil_append]
theorem eqN_le (xs : List Int) : eqN xs ≤ xs.length := by have := eqN_dist xs; omega
end Go.Proofs.Ytlgpcojoonnlbaa
end
section
/- MeetingsIn: plain law: words, quotients, differences, runs of a list in order, an insertion sort. -/
namespace Go.Proofs.Ytlgpcojoonnlbaa
open Go.RowKit
/-- Numbers that are words. -/
def allWords (xs : List Int) : Bool := xs.all fun x => inB x 0 4294967295
theorem allWords_false {xs : List Int} {k : Nat} {x : Int} (hx : xs[k]? = some x) (h : inB x 0 4294967295 = false) : allWords xs = false := by
  rw [allWords, List.all_eq_false]
  exact ⟨x, List.mem_of_getElem? hx, by simp [h]⟩
theorem allWords_true {xs : List Int} (h : ∀ (k : Nat) (x : Int), xs[k]? = some x → inB x 0 4294967295 = true) : allWords xs = true := by
  rw [allWords, List.all_eq_true]
  intro x hx
  obtain ⟨k, hk⟩ := List.mem_iff_getElem?.1 hx
  exact h k x hk
theorem allWords_at {xs : List Int} (h : allWords xs = true) {k : Nat} {x : Int} (hx : xs[k]? = some x) : 0 ≤ x ∧ x ≤ 4294967295 := by
  rw [allWords, List.all_eq_true] at h
  exact inB_true (h x (List.mem_of_getElem? hx))
def areWords (xs : List Int) : Bool := inB xs.length 1 256 && allWords xs
/-- The numbers divided. -/
def quotL (xs : List Int) (s : Int) : List Int := xs.map fun x => x / s
theorem quotL_len (xs : List Int) (s : Int) : (quotL xs s).length = xs.length := by simp [quotL]
theorem quotL_take {xs : List Int} {k : Nat} {x : Int} (s : Int) (h : xs[k]? = some x) : quotL (xs.take (k + 1)) s = quotL (xs.take k) s ++ [x / s] := by
  rw [take_succ_of h]; simp [quotL]
theorem quotL_in {xs : List Int} (h : allWords xs = true) {s : Int} (hs : 1 ≤ s) {k : Nat} {x : Int} (hx : (quotL xs s)[k]? = some x) : 0 ≤ x ∧ x ≤ 4294967295 := by
  unfold quotL at hx
  rw [List.getElem?_map] at hx
  cases hy : xs[k]? with
  | none => rw [hy] at hx; simp at hx
  | some y =>
    rw [hy] at hx
    simp only [Option.map_some, Option.some.injEq] at hx
    obtain ⟨h1, h2⟩ := allWords_at h hy
    subst hx
    refine ⟨Int.ediv_nonneg h1 (by omega), Int.le_trans (Int.ediv_le_self _ h1) h2⟩
theorem sortedI_all {p : Int → Prop} {xs : List Int} (h : ∀ x ∈ xs, p x) {k : Nat} {x : Int} (hx : (sortedI xs)[k]? = some x) : p x :=
  h x ((sortedI_perm' xs).mem_iff.1 (List.mem_of_getElem? hx))
/-- Each number less the one before it. -/
def lessL (ys : List Int) (n : Nat) : List Int := (List.range (n - 1)).map fun i => ys.getD (i + 1) 0 - ys.getD i 0
theorem lessL_len (ys : List Int) (n : Nat) : (lessL ys n).length = n - 1 := by simp [lessL]
theorem lessL_succ {ys : List Int} {n : Nat} (hn : 1 ≤ n) {x y : Int} (hx : ys[n]? = some x) (hy : ys[n - 1]? = some y) : lessL ys (n + 1) = lessL ys n ++ [x - y] := by
  obtain ⟨m, rfl⟩ : ∃ m, n = m + 1 := ⟨n - 1, by omega⟩
  unfold lessL
  simp only [Nat.add_sub_cancel] at hy ⊢
  rw [List.range_succ, List.map_append, List.map_singleton, List.getD_eq_getElem?_getD, List.getD_eq_getElem?_getD, hx, hy]
  rfl
def meetR (xs : List Int) (s : Int) : Option (Int × Int) :=
  if areWords xs && inB s 1 4294967296 then some ((eqN (quotL xs s) : Int), (eqN (lessL (sortedI (quotL xs s)) xs.length) : Int)) else none
/-- Places of a list at which a run begins, among the first t. -/
def runsN (ys : List Int) : Nat → Nat
  | 0 => 0
  | t + 1 => runsN ys t + (if t = 0 ∨ ys[t]? ≠ ys[t - 1]? then 1 else 0)
theorem runs_eqN {ys : List Int} (h : ys.Pairwise (fun a b => a ≤ b)) : ∀ t, t ≤ ys.length → runsN ys t + eqN (ys.take t) = t
  | 0, _ => rfl
  | t + 1, ht => by
    have ih := runs_eqN h t (by omega)
    have hx : ys[t]? = some ys[t] := List.getElem?_eq_getElem (by omega)
    rw [eqN_take hx, runsN]
    have hp := List.pairwise_iff_getElem.1 h
    by_cases h0 : t = 0
    · subst h0
      simp at ih ⊢
      omega
    · have hy : ys[t - 1]? = some ys[t - 1] := List.getElem?_eq_getElem (by omega)
      rw [hx, hy]
      by_cases e : ys[t] = ys[t - 1]
      · have hm : ys[t] ∈ ys.take t := by
          rw [e]
          exact List.mem_of_getElem? (i := t - 1) (by rw [List.getElem?_take, if_pos (by omega)]; exact hy)
        rw [if_pos hm, if_neg (by simp [h0, e])]
        omega
      · have hm : ¬ ys[t] ∈ ys.take t := by
          intro hm
          obtain ⟨i, hi⟩ := List.mem_iff_getElem?.1 hm
          have hit : i < t := by
            have := (List.getElem?_eq_some_iff.1 hi).1
            rw [List.length_take] at this
            omega
          rw [List.getElem?_take, if_pos hit] at hi
          obtain ⟨hil, hi2⟩ := List.getElem?_eq_some_iff.1 hi
          have h1 := hp (t - 1) t (by omega) (by omega) (by omega)
          by_cases e2 : i = t - 1
          · subst e2; exact e hi2.symm
          · have h2 := hp i (t - 1) hil (by omega) (by omega)
            omega
        rw [if_neg hm, if_pos (by simp [h0, e])]
        omega
theorem runs_sorted (xs : List Int) : runsN (sortedI xs) (sortedI xs).length + eqN xs = xs.length := by
  have := runs_eqN (sortedI_sorted' xs) (sortedI xs).length (Nat.le_refl _)
  rw [List.take_length, eqN_sorted] at this
  rw [this, sortedI_len]
/-- A list in order with the same numbers is the sorted one. -/
theorem sortedI_of {xs ys : List Int} (hp : ys.Perm xs) (hs : ∀ a b : Nat, a < b → b < ys.length → ys.getD a 0 ≤ ys.getD b 0) : sortedI xs = ys := by
  refine List.Perm.eq_of_pairwise (le := fun a b : Int => a ≤ b) (fun a b _ _ h1 h2 => by omega) (sortedI_sorted' xs) ?_ ((sortedI_perm' xs).trans hp.symm)
  rw [List.pairwise_iff_getElem]
  intro i j hi hj hij
  have := hs i j hij hj
  rwa [List.getD_eq_getElem?_getD, List.getD_eq_getElem?_getD, List.getElem?_eq_getElem hi, List.getElem?_eq_getElem hj] at this
/-- In order up to place i, but for the number at k against those before it. -/
def ordAt (ys : List Int) (i k : Nat) : Prop := ∀ a b : Nat, a < b → b ≤ i → b ≠ k → ys.getD a 0 ≤ ys.getD b 0
/-- In order ahead of place i. -/
def ordTo (ys : List Int) (i : Nat) : Prop := ∀ a b : Nat, a < b → b < i → ys.getD a 0 ≤ ys.getD b 0
theorem ordTo_one (ys : List Int) : ordTo ys 1 := fun a b h1 h2 => by omega
theorem ordTo.at_ {ys : List Int} {i : Nat} (h : ordTo ys i) : ordAt ys i i := fun a b h1 h2 h3 => h a b h1 (by omega)
theorem ordAt.zero {ys : List Int} {i : Nat} (h : ordAt ys i 0) : ordTo ys (i + 1) := fun a b h1 h2 => h a b h1 (by omega) (by omega)
theorem ordAt.stop {ys : List Int} {i k : Nat} (h : ordAt ys i k) (hki : k ≤ i) (hle : ys.getD (k - 1) 0 ≤ ys.getD k 0) (hk : 0 < k) : ordTo ys (i + 1) := fun a b h1 h2 => by
  by_cases e : b = k
  · subst e
    by_cases e2 : a = b - 1
    · subst e2; exact hle
    · have := h a (b - 1) (by omega) (by omega) (by omega)
      omega
  · exact h a b h1 (by omega) e
theorem getD_set2 (ys : List Int) (k : Nat) (hk : 0 < k) (hl : k < ys.length) (u v : Int) (j : Nat) : ((ys.set k u).set (k - 1) v).getD j 0 = if j = k - 1 then v else if j = k then u else ys.getD j 0 := by
  simp only [List.getD_eq_getElem?_getD, List.getElem?_set, List.length_set]
  by_cases h1 : k - 1 = j
  · simp only [if_pos h1, if_pos h1.symm]; rw [if_pos (by omega)]; rfl
  · simp only [if_neg h1, if_neg (fun e : j = k - 1 => h1 e.symm)]
    by_cases h2 : k = j
    · simp only [if_pos h2, if_pos h2.symm]; rw [if_pos (by omega)]; rfl
    · simp only [if_neg h2, if_neg (fun e : j = k => h2 e.symm)]
def swapAt (ys : List Int) (k : Nat) : List Int := (ys.set k (ys.getD (k - 1) 0)).set (k - 1) (ys.getD k 0)
theorem swapAt_len (ys : List Int) (k : Nat) : (swapAt ys k).length = ys.length := by simp [swapAt]
theorem ordAt.swap {ys : List Int} {i k : Nat} (h : ordAt ys i k) (hk : 0 < k) (hki : k ≤ i) (hi : i < ys.length) (hlt : ys.getD k 0 < ys.getD (k - 1) 0) : ordAt (swapAt ys k) i (k - 1) := by
  intro a b h1 h2 h3
  unfold swapAt
  rw [getD_set2 ys k hk (by omega), getD_set2 ys k hk (by omega)]
  rw [if_neg h3]
  by_cases ea : a = k - 1
  · rw [if_pos ea]
    by_cases eb : b = k
    · rw [if_pos eb]; omega
    · rw [if_neg eb]; exact h k b (by omega) h2 eb
  · rw [if_neg ea]
    by_cases eb : b = k
    · rw [if_pos eb, if_neg (by omega)]
      exact h a (k - 1) (by omega) (by omega) (by omega)
    · rw [if_neg eb]
      by_cases ea2 : a = k
      · rw [if_pos ea2]; exact h (k - 1) b (by omega) h2 eb
      · rw [if_neg ea2]; exact h a b h1 h2 eb
theorem swapAt_perm (ys : List Int) (k : Nat) (hk : 0 < k) (hl : k < ys.length) : (swapAt ys k).Perm ys := by
  unfold swapAt
  have e1 : ys.getD (k - 1) 0 = ys[k - 1] := by rw [List.getD_eq_getElem?_getD, List.getElem?_eq_getElem (by omega)]; rfl
  have e2 : ys.getD k 0 = ys[k] := by rw [List.getD_eq_getElem?_getD, List.getElem?_eq_getElem hl]; rfl
  rw [e1, e2]
  exact List.set_set_perm hl (by omega)
end Go.Proofs.Ytlgpcojoonnlbaa
end
