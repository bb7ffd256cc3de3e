/- The walk of the statement FnExactSkipSeed, whole. -/
import Derived.Test.YtbfofbpjdmgogaaLawSkipSeed
import Derived.Test.YtbfofbpjdmgogaaSkip
namespace Go.Proofs.Ytbfofbpjdmgogaa
open Go.RowKit
theorem walk_SkipSeed
    (w : World) (k_aS a_aS b_aS : Int) (hf_aS : Sd.ok ⟨k_aS, a_aS, b_aS⟩) (n_aCount : Int) (hf_aCount : -9223372036854775808 ≤ n_aCount ∧ n_aCount ≤ 9223372036854775807) :
    Calls Try.prog 4 #[.agg #[.int .i64 k_aS, .int .u64 a_aS, .int .u64 b_aS], .int .i64 n_aCount] w fun e w' => e = .returned (.bool true) ∧ Below w.heap.size w w' :=
  law_SkipSeed skipSeed specSkip_any implSkip_any w k_aS a_aS b_aS hf_aS n_aCount hf_aCount
end Go.Proofs.Ytbfofbpjdmgogaa
