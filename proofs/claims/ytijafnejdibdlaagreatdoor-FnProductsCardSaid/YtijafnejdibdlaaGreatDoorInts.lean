/- The helpers of the statements on lists of int64: what each computes and what it leaves of memory. -/
import Derived.Test.YtijafnejdibdlaaGreatDoorBase
import Derived.Test.YtijafnejdibdlaaGreatDoorProg
namespace Go.Proofs.YtijafnejdibdlaaGreatDoor
open Go.RowKit

/-- The marks that 'markInt64S' lays. -/
def marks (k n : Nat) : List Int := (List.range n).map fun i => ((k + i : Nat) : Int)
theorem marks_len (k n : Nat) : (marks k n).length = n := by simp [marks]
theorem marks_get (k n i : Nat) (h : i < n) : (marks k n)[i]? = some ((k + i : Nat) : Int) := by simp [marks, h]

end Go.Proofs.YtijafnejdibdlaaGreatDoor
