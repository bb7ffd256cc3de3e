/- The walk of the statement FnExactReturnSeed, whole. -/
import Derived.Test.YtbfofbpjdmgogaaLawReturnSeed
import Derived.Test.YtbfofbpjdmgogaaReturn
namespace Go.Proofs.Ytbfofbpjdmgogaa
open Go.RowKit
theorem walk_ReturnSeed
    (w : World) (k_aS a_aS b_aS : Int) (hf_aS : Sd.ok ⟨k_aS, a_aS, b_aS⟩) (n_aN : Int) (hf_aN : -9223372036854775808 ≤ n_aN ∧ n_aN ≤ 9223372036854775807) (n_aK : Int) (hf_aK : -9223372036854775808 ≤ n_aK ∧ n_aK ≤ 9223372036854775807) :
    Calls Try.prog 11 #[.agg #[.int .i64 k_aS, .int .u64 a_aS, .int .u64 b_aS], .int .i64 n_aN, .int .i64 n_aK] w fun e w' => e = .returned (.bool true) ∧ Below w.heap.size w w' :=
  law_ReturnSeed returnSeed specReturn_any implReturn_any (fun _ _ _ => returnSeed_short _) w k_aS a_aS b_aS hf_aS n_aN hf_aN n_aK hf_aK
end Go.Proofs.Ytbfofbpjdmgogaa
