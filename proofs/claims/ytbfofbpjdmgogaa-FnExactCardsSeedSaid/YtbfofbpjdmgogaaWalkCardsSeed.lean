/- The walk of the statement FnExactCardsSeed, whole. -/
import Derived.Test.YtbfofbpjdmgogaaLawCardsSeed
import Derived.Test.YtbfofbpjdmgogaaCards
namespace Go.Proofs.Ytbfofbpjdmgogaa
open Go.RowKit
theorem walk_CardsSeed
    (w : World) (k_aS a_aS b_aS : Int) (hf_aS : Sd.ok ⟨k_aS, a_aS, b_aS⟩) (n_aN : Int) (hf_aN : -9223372036854775808 ≤ n_aN ∧ n_aN ≤ 9223372036854775807) :
    Calls Try.prog 8 #[.agg #[.int .i64 k_aS, .int .u64 a_aS, .int .u64 b_aS], .int .i64 n_aN] w fun e w' => e = .returned (.bool true) ∧ Below w.heap.size w w' :=
  law_CardsSeed cardsSeed specCards_any implCards_any cards_short w k_aS a_aS b_aS hf_aS n_aN hf_aN
end Go.Proofs.Ytbfofbpjdmgogaa
