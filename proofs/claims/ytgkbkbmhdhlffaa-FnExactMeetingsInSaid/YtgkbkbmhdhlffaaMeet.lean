/- MeetingsIn: plain law: how many numbers of a list are equal to one before them. -/
import Derived.Test.YtgkbkbmhdhlffaaSortI
namespace Go.Proofs.Ytgkbkbmhdhlffaa
/-- Numbers equal to one before them, 'pre' standing before the list. -/
def seenN (pre : List Int) : List Int → Nat
  | [] => 0
  | x :: xs => (if x ∈ pre then 1 else 0) + seenN (pre ++ [x]) xs
def eqN (l : List Int) : Nat := seenN [] l
/-- Different numbers of a list. -/
def distN : List Int → Nat
  | [] => 0
  | x :: xs => (if x ∈ xs then 0 else 1) + distN xs
theorem distN_perm {a b : List Int} (h : a.Perm b) : distN a = distN b := by
  induction h with
  | nil => rfl
  | @cons x l1 l2 h ih =>
    unfold distN
    rw [ih]
    by_cases hx : x ∈ l1
    · rw [if_pos hx, if_pos (h.mem_iff.1 hx)]
    · rw [if_neg hx, if_neg (fun e => hx (h.mem_iff.2 e))]
  | swap x y l =>
    simp only [distN, List.mem_cons]
    by_cases hxy : x = y
    · subst hxy; rfl
    · have hyx : ¬ y = x := fun e => hxy e.symm
      simp only [hxy, hyx, false_or]
      omega
  | trans _ _ h1 h2 => exact h1.trans h2
theorem seenN_snoc (pre l : List Int) (x : Int) : seenN pre (l ++ [x]) = seenN pre l + (if x ∈ pre ++ l then 1 else 0) := by
  induction l generalizing pre with
  | nil => simp [seenN]
  | cons y l ih =>
    rw [List.cons_append, seenN, ih, seenN, List.append_assoc, List.singleton_append]
    omega
theorem eqN_rev (l : List Int) : eqN l.reverse + distN l.reverse = l.length := by
  induction l with
  | nil => rfl
  | cons x l ih =>
    have hp : distN (l.reverse ++ [x]) = distN (x :: l.reverse) := distN_perm (List.perm_append_singleton x l.reverse)
    rw [List.reverse_cons, hp]
    unfold eqN at ih ⊢
    rw [seenN_snoc, List.nil_append, distN, List.length_cons]
    by_cases hx : x ∈ l.reverse
    · rw [if_pos hx, if_pos hx]; omega
    · rw [if_neg hx, if_neg hx]; omega
theorem eqN_dist (l : List Int) : eqN l + distN l = l.length := by
  have := eqN_rev l.reverse
  rwa [List.reverse_reverse, List.length_reverse] at this
theorem eqN_perm {a b : List Int} (h : a.Perm b) : eqN a = eqN b := by
  have h1 := eqN_dist a
  have h2 := eqN_dist b
  have h3 := distN_perm h
  have h4 := h.length_eq
  omega
/-- Runs of equal neighbours, each once. -/
def compL : List Int → List Int
  | [] => []
  | [x] => [x]
  | x :: y :: ys => if x = y then compL (y :: ys) else x :: compL (y :: ys)
theorem compL_len {l : List Int} (h : l.Pairwise (fun a b => a ≤ b)) : (compL l).length = distN l := by
  induction l with
  | nil => rfl
  | cons x l ih =>
    cases l with
    | nil => simp [compL, distN]
    | cons y ys =>
      rw [List.pairwise_cons] at h
      have ih' := ih h.2
      have hxy : x ≤ y := h.1 y (by simp)
      have hys : ∀ z ∈ ys, y ≤ z := (List.pairwise_cons.1 h.2).1
      rw [compL, distN]
      by_cases e : x = y
      · subst e
        rw [if_pos rfl, if_pos (by simp), ih', Nat.zero_add]
      · have hn : ¬ x ∈ y :: ys := by
          intro hm
          rcases List.mem_cons.1 hm with h1 | h1
          · exact e h1
          · have := hys x h1; omega
        rw [if_neg e, if_neg hn, List.length_cons, ih']
        omega
theorem sortedI_perm' (xs : List Int) : (sortedI xs).Perm xs := List.mergeSort_perm _ _
theorem sortedI_sorted' (xs : List Int) : (sortedI xs).Pairwise (fun a b => a ≤ b) := by
  have := List.pairwise_mergeSort (le := fun (x y : Int) => decide (x ≤ y)) (by intro a b c; simp; omega) (by intro a b; simp; omega) xs
  simpa [sortedI] using this
theorem meet_plain (xs : List Int) : eqN xs + (compL (sortedI xs)).length = xs.length := by
  rw [compL_len (sortedI_sorted' xs), distN_perm (sortedI_perm' xs)]
  exact eqN_dist xs
theorem eqN_sorted (xs : List Int) : eqN (sortedI xs) = eqN xs := eqN_perm (sortedI_perm' xs)
end Go.Proofs.Ytgkbkbmhdhlffaa
