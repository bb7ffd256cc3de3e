/- The walk of the statement FnExactTreeOf, whole. -/
import Derived.Test.YtoddmplmeliioaaLawTreeOf
import Derived.Test.YtoddmplmeliioaaTreeOf
namespace Go.Proofs.Ytoddmplmeliioaa
open Go.RowKit
theorem walk_TreeOf
    (w : World) (A_aWeights : Option Addr) (n_aWeights c_aWeights : Nat) (xs_aWeights : List Int) (h_aWeights : Rd w w.heap.size A_aWeights n_aWeights (i64s xs_aWeights)) (hn_aWeights : n_aWeights ≤ maxLen) (hf_aWeights : Fit xs_aWeights) :
    Calls Try.prog 6 #[.slice A_aWeights n_aWeights c_aWeights] w fun e w' => e = .returned (.bool true) ∧ Below w.heap.size w w' :=
  law_TreeOf treeOfL specTreeOf implTreeOf treeOfL_short w A_aWeights n_aWeights c_aWeights xs_aWeights h_aWeights hn_aWeights hf_aWeights
end Go.Proofs.Ytoddmplmeliioaa
