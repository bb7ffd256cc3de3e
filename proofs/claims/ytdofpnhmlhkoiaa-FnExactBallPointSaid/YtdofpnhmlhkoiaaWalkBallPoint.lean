/- The walk of the statement FnExactBallPoint, whole. -/
import Derived.Test.YtdofpnhmlhkoiaaLawBallPoint
import Derived.Test.YtdofpnhmlhkoiaaBall
namespace Go.Proofs.Ytdofpnhmlhkoiaa
open Go.RowKit
theorem walk_BallPoint
    (w : World) (k_aS a_aS b_aS : Int) (hf_aS : Sd.ok ⟨k_aS, a_aS, b_aS⟩) :
    Calls Try.prog 6 #[.agg #[.int .i64 k_aS, .int .u64 a_aS, .int .u64 b_aS]] w fun e w' => e = .returned (.bool true) ∧ Below w.heap.size w w' :=
  law_BallPoint ballSeed specBall_any implBall_any ballSeed_short w k_aS a_aS b_aS hf_aS
end Go.Proofs.Ytdofpnhmlhkoiaa
