/- The walk of the statement FnExactBetweenSeed, whole. -/
import Derived.Test.YtbfofbpjdmgogaaLawBetweenSeed
import Derived.Test.YtbfofbpjdmgogaaBetween
namespace Go.Proofs.Ytbfofbpjdmgogaa
open Go.RowKit
theorem walk_BetweenSeed
    (w : World) (k_aS a_aS b_aS : Int) (hf_aS : Sd.ok ⟨k_aS, a_aS, b_aS⟩) (x_aLow : Nat) (hf_aLow : x_aLow < 2 ^ 32) (x_aHigh : Nat) (hf_aHigh : x_aHigh < 2 ^ 32) :
    Calls Try.prog 6 #[.agg #[.int .i64 k_aS, .int .u64 a_aS, .int .u64 b_aS], .float .f32 x_aLow, .float .f32 x_aHigh] w fun e w' => e = .returned (.bool true) ∧ Below w.heap.size w w' :=
  law_BetweenSeed betweenSeed specBetween_any implBetween_any w k_aS a_aS b_aS hf_aS x_aLow hf_aLow x_aHigh hf_aHigh
end Go.Proofs.Ytbfofbpjdmgogaa
