/- The walk of the statement FnExactTreeSum, whole. -/
import Derived.Test.YtoddmplmeliioaaLawTreeSum
import Derived.Test.YtoddmplmeliioaaTreeSumW
namespace Go.Proofs.Ytoddmplmeliioaa
open Go.RowKit
theorem walk_TreeSum
    (w : World) (A_aTree : Option Addr) (n_aTree c_aTree : Nat) (xs_aTree : List Int) (h_aTree : Rd w w.heap.size A_aTree n_aTree (i64s xs_aTree)) (hn_aTree : n_aTree ≤ maxLen) (hf_aTree : Fit xs_aTree) (n_aI : Int) (hf_aI : -9223372036854775808 ≤ n_aI ∧ n_aI ≤ 9223372036854775807) :
    Calls Try.prog 7 #[.slice A_aTree n_aTree c_aTree, .int .i64 n_aI] w fun e w' => e = .returned (.bool true) ∧ Below w.heap.size w w' :=
  law_TreeSum treeSum specTreeSum implTreeSum w A_aTree n_aTree c_aTree xs_aTree h_aTree hn_aTree hf_aTree n_aI hf_aI
end Go.Proofs.Ytoddmplmeliioaa
