/- The walk of the statement FnExactWaitSeed, whole. -/
import Derived.Test.YtdofpnhmlhkoiaaLawWaitSeed
import Derived.Test.YtdofpnhmlhkoiaaWait
namespace Go.Proofs.Ytdofpnhmlhkoiaa
open Go.RowKit
theorem walk_WaitSeed
    (w : World) (k_aS a_aS b_aS : Int) (hf_aS : Sd.ok ⟨k_aS, a_aS, b_aS⟩) (x_aRate : Nat) (hf_aRate : x_aRate < 2 ^ 32) :
    Calls Try.prog 3 #[.agg #[.int .i64 k_aS, .int .u64 a_aS, .int .u64 b_aS], .float .f32 x_aRate] w fun e w' => e = .returned (.bool true) ∧ Below w.heap.size w w' :=
  law_WaitSeed waitSeed specWait_any implWait_any w k_aS a_aS b_aS hf_aS x_aRate hf_aRate
end Go.Proofs.Ytdofpnhmlhkoiaa
