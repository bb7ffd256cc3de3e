/- The walk of the statement FnExactDiscPoint, whole. -/
import Derived.Test.YtbfofbpjdmgogaaLawDiscPoint
import Derived.Test.YtbfofbpjdmgogaaDisc
namespace Go.Proofs.Ytbfofbpjdmgogaa
open Go.RowKit
theorem walk_DiscPoint
    (w : World) (k_aS a_aS b_aS : Int) (hf_aS : Sd.ok ⟨k_aS, a_aS, b_aS⟩) :
    Calls Try.prog 7 #[.agg #[.int .i64 k_aS, .int .u64 a_aS, .int .u64 b_aS]] w fun e w' => e = .returned (.bool true) ∧ Below w.heap.size w w' :=
  law_DiscPoint discSeed specDisc_any implDisc_any w k_aS a_aS b_aS hf_aS
end Go.Proofs.Ytbfofbpjdmgogaa
