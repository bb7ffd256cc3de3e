/- The walk of the statement FnExactGapOfPoints, whole. -/
import Derived.Test.YtmhhjegceibjoaaLawGapOfPoints
import Derived.Test.YtmhhjegceibjoaaGapS
namespace Go.Proofs.Ytmhhjegceibjoaa
open Go.RowKit
theorem walk_GapOfPoints
    (w : World) (A_aList : Option Addr) (n_aList c_aList : Nat) (xs_aList : List Nat) (h_aList : Rd w w.heap.size A_aList n_aList (f32s xs_aList)) (hn_aList : n_aList ≤ maxLen) :
    Calls Try.prog 3 #[.slice A_aList n_aList c_aList] w fun e w' => e = .returned (.bool true) ∧ Below w.heap.size w w' :=
  law_GapOfPoints gapR specGap implGap w A_aList n_aList c_aList xs_aList h_aList hn_aList
end Go.Proofs.Ytmhhjegceibjoaa
