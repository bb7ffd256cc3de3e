/- The walk of the statement FnExactCountSeed, whole. -/
import Derived.Test.YtdofpnhmlhkoiaaLawCountSeed
import Derived.Test.YtdofpnhmlhkoiaaCount
namespace Go.Proofs.Ytdofpnhmlhkoiaa
open Go.RowKit
theorem walk_CountSeed
    (w : World) (k_aS a_aS b_aS : Int) (hf_aS : Sd.ok ⟨k_aS, a_aS, b_aS⟩) (x_aMean : Nat) (hf_aMean : x_aMean < 2 ^ 32) :
    Calls Try.prog 5 #[.agg #[.int .i64 k_aS, .int .u64 a_aS, .int .u64 b_aS], .float .f32 x_aMean] w fun e w' => e = .returned (.bool true) ∧ Below w.heap.size w w' :=
  law_CountSeed countSeed specCount_any implCount_any w k_aS a_aS b_aS hf_aS x_aMean hf_aMean
end Go.Proofs.Ytdofpnhmlhkoiaa
