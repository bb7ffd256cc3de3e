/- 'ArePicks' of the program and of the reference: weights of picks. -/
import Derived.Test.YtmhhjegceibjoaaFin
import Derived.Test.YtmhhjegceibjoaaSmall
import Derived.Test.YtmhhjegceibjoaaShapes
import Derived.Test.YtmhhjegceibjoaaShapesF
namespace Go.Proofs.Ytmhhjegceibjoaa
open Go.RowKit

/-- The sum of float32 numbers from left to right. -/
def sumF (xs : List Nat) : Nat := xs.foldl (fun s x => fop .add .f32 s x) 0
theorem sumF_snoc (xs : List Nat) (x : Nat) : sumF (xs ++ [x]) = fop .add .f32 (sumF xs) x := by simp [sumF, List.foldl_append]
theorem sumF_cn (xs : List Nat) : cn .f32 (sumF xs) = sumF xs := by
  rcases List.eq_nil_or_concat xs with rfl | ⟨ys, y, rfl⟩
  · exact cn_of_not (zero_not_nan .f32)
  · rw [List.concat_eq_append, sumF_snoc, cn_fop]
def allP (p : Nat → Bool) (xs : List Nat) : Bool := xs.all p
theorem allP_false {p : Nat → Bool} {xs : List Nat} {k x : Nat} (hx : xs[k]? = some x) (h : p x = false) : allP p xs = false := by
  rw [allP, List.all_eq_false]
  exact ⟨x, List.mem_of_getElem? hx, by simp [h]⟩
theorem allP_true {p : Nat → Bool} {xs : List Nat} (h : ∀ (k x : Nat), xs[k]? = some x → p x = true) : allP p xs = true := by
  rw [allP, List.all_eq_true]
  intro x hx
  obtain ⟨k, hk⟩ := List.mem_iff_getElem?.1 hx
  exact h k x hk
def picksB (xs : List Nat) : Bool := inB xs.length 1 64 && (allP nonnegB xs && posB (sumF xs))

end Go.Proofs.Ytmhhjegceibjoaa
