/- Lists of counts: one more at a place; sums, weighed sums, bounds. -/
import Derived.Test.YtlgpcojoonnlbaaSmall
namespace Go.Proofs.Ytlgpcojoonnlbaa
open Go.RowKit
def totN : List Int → Int
  | [] => 0
  | x :: t => x + totN t
theorem totN_append (a b : List Int) : totN (a ++ b) = totN a + totN b := by
  induction a with
  | nil => simp [totN]
  | cons x t ih => rw [List.cons_append, totN, totN, ih]; omega
theorem totN_snoc (a : List Int) (x : Int) : totN (a ++ [x]) = totN a + x := by rw [totN_append]; simp [totN]
theorem totN_take {a : List Int} {k : Nat} {x : Int} (h : a[k]? = some x) : totN (a.take (k + 1)) = totN (a.take k) + x := by rw [take_succ_of h, totN_snoc]
theorem totN_zero : ∀ n : Nat, totN (List.replicate n 0) = 0
  | 0 => rfl
  | n + 1 => by rw [List.replicate_succ, totN, totN_zero n]; rfl
theorem totN_set : ∀ (a : List Int) (k : Nat) (y : Int), k < a.length → totN (a.set k y) = totN a - a.getD k 0 + y
  | [], _, _, h => by simp at h
  | x :: t, 0, y, _ => by simp only [List.set_cons_zero, totN, List.getD_cons_zero]; omega
  | x :: t, k + 1, y, h => by
    have := totN_set t k y (by simpa using h)
    simp only [List.set_cons_succ, totN, List.getD_cons_succ, this]
    omega
/-- Sum with the weights n + 1, n + 2 .. -/
def wsumN : Int → List Int → Int
  | _, [] => 0
  | n, x :: t => (n + 1) * x + wsumN (n + 1) t
theorem wsumN_snoc : ∀ (a : List Int) (n x : Int), wsumN n (a ++ [x]) = wsumN n a + (n + a.length + 1) * x
  | [], n, x => by simp [wsumN]
  | z :: t, n, x => by
    rw [List.cons_append, wsumN, wsumN_snoc t (n + 1) x, wsumN, List.length_cons, Int.natCast_add]
    have : n + 1 + (t.length : Int) + 1 = n + ((t.length : Int) + ((1 : Nat) : Int)) + 1 := by omega
    rw [this]
    omega
theorem wsumN_take {a : List Int} {k : Nat} {x : Int} (h : a[k]? = some x) : wsumN 0 (a.take (k + 1)) = wsumN 0 (a.take k) + ((k : Int) + 1) * x := by
  have hk : k < a.length := (List.getElem?_eq_some_iff.1 h).1
  rw [take_succ_of h, wsumN_snoc, List.length_take, Nat.min_eq_left (by omega), Int.zero_add]
theorem wsumN_zero : ∀ (k : Nat) (n : Int), wsumN n (List.replicate k 0) = 0
  | 0, _ => rfl
  | k + 1, n => by rw [List.replicate_succ, wsumN, wsumN_zero k]; simp
theorem wsumN_set : ∀ (a : List Int) (n : Int) (k : Nat) (y : Int), k < a.length → wsumN n (a.set k y) = wsumN n a + (n + k + 1) * (y - a.getD k 0)
  | [], _, _, _, h => by simp at h
  | x :: t, n, 0, y, _ => by
    simp only [List.set_cons_zero, wsumN, List.getD_cons_zero]
    have : n + ((0 : Nat) : Int) + 1 = n + 1 := by omega
    rw [this, Int.mul_sub]
    omega
  | x :: t, n, k + 1, y, h => by
    have e := wsumN_set t (n + 1) k y (by simpa using h)
    simp only [List.set_cons_succ, wsumN, List.getD_cons_succ, e]
    have : n + ((k + 1 : Nat) : Int) + 1 = n + 1 + (k : Int) + 1 := by omega
    rw [this]
    omega
/-- One more at a place. -/
def bumpN (a : List Int) (k : Nat) : List Int := a.set k (a.getD k 0 + 1)
theorem bumpN_len (a : List Int) (k : Nat) : (bumpN a k).length = a.length := by simp [bumpN]
theorem bumpN_tot {a : List Int} {k : Nat} (h : k < a.length) : totN (bumpN a k) = totN a + 1 := by
  rw [bumpN, totN_set a k _ h]; omega
theorem bumpN_wsum {a : List Int} {k : Nat} (h : k < a.length) : wsumN 0 (bumpN a k) = wsumN 0 a + ((k : Int) + 1) := by
  rw [bumpN, wsumN_set a 0 k _ h]
  have : a.getD k 0 + 1 - a.getD k 0 = 1 := by omega
  rw [this]
  omega
def bdN (a : List Int) (b : Int) : Prop := ∀ j, 0 ≤ a.getD j 0 ∧ a.getD j 0 ≤ b
theorem bdN_zero (n : Nat) {b : Int} (hb : 0 ≤ b) : bdN (List.replicate n 0) b := fun j => by
  rw [List.getD_eq_getElem?_getD]
  by_cases h : j < n
  · simp [h, hb]
  · simp [h, hb]
theorem bdN_mono {a : List Int} {b c : Int} (h : bdN a b) (hc : b ≤ c) : bdN a c := fun j => by have := h j; omega
theorem bdN_bump {a : List Int} {b : Int} (h : bdN a b) (k : Nat) : bdN (bumpN a k) (b + 1) := fun j => by
  have h1 := h j
  have h2 := h k
  unfold bumpN
  rw [List.getD_eq_getElem?_getD] at h1 ⊢
  rw [List.getElem?_set]
  by_cases e : k = j
  · rw [if_pos e]
    split
    · simp only [Option.getD_some]; omega
    · simp only [Option.getD_none]; omega
  · rw [if_neg e]; omega
/-- How many words are less than 2^31. -/
def smallN (xs : List Int) : Nat := xs.countP fun x => decide (x < 2147483648)
theorem smallN_take {xs : List Int} {k : Nat} {x : Int} (h : xs[k]? = some x) : smallN (xs.take (k + 1)) = smallN (xs.take k) + (if x < 2147483648 then 1 else 0) := by
  rw [take_succ_of h, smallN, List.countP_append, smallN]
  by_cases c : x < 2147483648 <;> simp [c]
theorem smallN_le (xs : List Int) (k : Nat) : smallN (xs.take k) ≤ k := Nat.le_trans List.countP_le_length (by rw [List.length_take]; omega)
end Go.Proofs.Ytlgpcojoonnlbaa
