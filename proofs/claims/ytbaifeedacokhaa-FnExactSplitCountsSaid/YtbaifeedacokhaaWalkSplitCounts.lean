/- The walk of the statement FnExactSplitCounts, whole. -/
import Derived.Test.YtbaifeedacokhaaLawSplitCounts
import Derived.Test.YtbaifeedacokhaaSplitI
namespace Go.Proofs.Ytbaifeedacokhaa
open Go.RowKit
theorem walk_SplitCounts
    (w : World) (k_aS a_aS b_aS : Int) (hf_aS : Sd.ok ⟨k_aS, a_aS, b_aS⟩) (n_aN : Int) (hf_aN : -9223372036854775808 ≤ n_aN ∧ n_aN ≤ 9223372036854775807) (A_aWeights : Option Addr) (n_aWeights c_aWeights : Nat) (xs_aWeights : List Nat) (h_aWeights : Rd w w.heap.size A_aWeights n_aWeights (f32s xs_aWeights)) (hn_aWeights : n_aWeights ≤ maxLen) :
    Calls Try.prog 4 #[.agg #[.int .i64 k_aS, .int .u64 a_aS, .int .u64 b_aS], .int .i64 n_aN, .slice A_aWeights n_aWeights c_aWeights] w fun e w' => e = .returned (.bool true) ∧ Below w.heap.size w w' :=
  law_SplitCounts splitR specSplit implSplit splitR_short w k_aS a_aS b_aS hf_aS n_aN hf_aN A_aWeights n_aWeights c_aWeights xs_aWeights h_aWeights hn_aWeights
end Go.Proofs.Ytbaifeedacokhaa
