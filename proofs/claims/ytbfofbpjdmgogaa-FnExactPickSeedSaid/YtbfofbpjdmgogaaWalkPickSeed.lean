/- The walk of the statement FnExactPickSeed, whole. -/
import Derived.Test.YtbfofbpjdmgogaaLawPickSeed
import Derived.Test.YtbfofbpjdmgogaaPickSeed
namespace Go.Proofs.Ytbfofbpjdmgogaa
open Go.RowKit
theorem walk_PickSeed
    (w : World) (k_aS a_aS b_aS : Int) (hf_aS : Sd.ok ⟨k_aS, a_aS, b_aS⟩) (A_aWeights : Option Addr) (n_aWeights c_aWeights : Nat) (xs_aWeights : List Nat) (h_aWeights : Rd w w.heap.size A_aWeights n_aWeights (f32s xs_aWeights)) (hn_aWeights : n_aWeights ≤ maxLen) :
    Calls Try.prog 9 #[.agg #[.int .i64 k_aS, .int .u64 a_aS, .int .u64 b_aS], .slice A_aWeights n_aWeights c_aWeights] w fun e w' => e = .returned (.bool true) ∧ Below w.heap.size w w' :=
  law_PickSeed pickSeed specPickSeed_any implPickSeed_any w k_aS a_aS b_aS hf_aS A_aWeights n_aWeights c_aWeights xs_aWeights h_aWeights hn_aWeights
end Go.Proofs.Ytbfofbpjdmgogaa
