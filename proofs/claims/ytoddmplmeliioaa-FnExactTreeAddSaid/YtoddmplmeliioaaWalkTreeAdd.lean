/- The walk of the statement FnExactTreeAdd, whole. -/
import Derived.Test.YtoddmplmeliioaaLawTreeAdd
import Derived.Test.YtoddmplmeliioaaTreeAdd
namespace Go.Proofs.Ytoddmplmeliioaa
open Go.RowKit
theorem walk_TreeAdd
    (w : World) (A_aTree : Option Addr) (n_aTree c_aTree : Nat) (xs_aTree : List Int) (h_aTree : Rd w w.heap.size A_aTree n_aTree (i64s xs_aTree)) (hn_aTree : n_aTree ≤ maxLen) (hf_aTree : Fit xs_aTree) (n_aI : Int) (hf_aI : -9223372036854775808 ≤ n_aI ∧ n_aI ≤ 9223372036854775807) (n_aBy : Int) (hf_aBy : -9223372036854775808 ≤ n_aBy ∧ n_aBy ≤ 9223372036854775807) :
    Calls Try.prog 12 #[.slice A_aTree n_aTree c_aTree, .int .i64 n_aI, .int .i64 n_aBy] w fun e w' => e = .returned (.bool true) ∧ Below w.heap.size w w' :=
  law_TreeAdd treeAdd specTreeAdd implTreeAdd treeAdd_short w A_aTree n_aTree c_aTree xs_aTree h_aTree hn_aTree hf_aTree n_aI hf_aI n_aBy hf_aBy
end Go.Proofs.Ytoddmplmeliioaa
