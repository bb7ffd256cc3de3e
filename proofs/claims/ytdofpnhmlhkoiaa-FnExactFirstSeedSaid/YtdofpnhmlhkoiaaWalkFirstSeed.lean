/- The walk of the statement FnExactFirstSeed, whole. -/
import Derived.Test.YtdofpnhmlhkoiaaLawFirstSeed
import Derived.Test.YtdofpnhmlhkoiaaFirst
namespace Go.Proofs.Ytdofpnhmlhkoiaa
open Go.RowKit
theorem walk_FirstSeed
    (w : World) (k_aS a_aS b_aS : Int) (hf_aS : Sd.ok ⟨k_aS, a_aS, b_aS⟩) (x_aShare : Nat) (hf_aShare : x_aShare < 2 ^ 32) :
    Calls Try.prog 9 #[.agg #[.int .i64 k_aS, .int .u64 a_aS, .int .u64 b_aS], .float .f32 x_aShare] w fun e w' => e = .returned (.bool true) ∧ Below w.heap.size w w' :=
  law_FirstSeed firstSeed specFirst_any implFirst_any w k_aS a_aS b_aS hf_aS x_aShare hf_aShare
end Go.Proofs.Ytdofpnhmlhkoiaa
