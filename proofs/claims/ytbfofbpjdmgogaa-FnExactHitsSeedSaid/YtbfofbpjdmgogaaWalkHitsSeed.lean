/- The walk of the statement FnExactHitsSeed, whole. -/
import Derived.Test.YtbfofbpjdmgogaaLawHitsSeed
import Derived.Test.YtbfofbpjdmgogaaHits
namespace Go.Proofs.Ytbfofbpjdmgogaa
open Go.RowKit
theorem walk_HitsSeed
    (w : World) (k_aS a_aS b_aS : Int) (hf_aS : Sd.ok ⟨k_aS, a_aS, b_aS⟩) (n_aN : Int) (hf_aN : -9223372036854775808 ≤ n_aN ∧ n_aN ≤ 9223372036854775807) (x_aShare : Nat) (hf_aShare : x_aShare < 2 ^ 32) :
    Calls Try.prog 5 #[.agg #[.int .i64 k_aS, .int .u64 a_aS, .int .u64 b_aS], .int .i64 n_aN, .float .f32 x_aShare] w fun e w' => e = .returned (.bool true) ∧ Below w.heap.size w w' :=
  law_HitsSeed hitsSeed specHits_any implHits_any w k_aS a_aS b_aS hf_aS n_aN hf_aN x_aShare hf_aShare
end Go.Proofs.Ytbfofbpjdmgogaa
