/- The walk of the statement FnExactBetaSeed, whole. -/
import Derived.Test.YtahimjdfkmhknaaLawBetaSeed
import Derived.Test.YtahimjdfkmhknaaBeta
namespace Go.Proofs.Ytahimjdfkmhknaa
open Go.RowKit
theorem walk_BetaSeed
    (w : World) (k_aS a_aS b_aS : Int) (hf_aS : Sd.ok ⟨k_aS, a_aS, b_aS⟩) (x_aA : Nat) (hf_aA : x_aA < 2 ^ 32) (x_aB : Nat) (hf_aB : x_aB < 2 ^ 32) :
    Calls Try.prog 4 #[.agg #[.int .i64 k_aS, .int .u64 a_aS, .int .u64 b_aS], .float .f32 x_aA, .float .f32 x_aB] w fun e w' => e = .returned (.bool true) ∧ Below w.heap.size w w' :=
  law_BetaSeed betaSeed specBeta_any implBeta_any w k_aS a_aS b_aS hf_aS x_aA hf_aA x_aB hf_aB
end Go.Proofs.Ytahimjdfkmhknaa
