/- The walk of the statement FnExactGammaSeed, whole. -/
import Derived.Test.YtahimjdfkmhknaaLawGammaSeed
import Derived.Test.YtahimjdfkmhknaaGamT
namespace Go.Proofs.Ytahimjdfkmhknaa
open Go.RowKit
theorem walk_GammaSeed
    (w : World) (k_aS a_aS b_aS : Int) (hf_aS : Sd.ok ⟨k_aS, a_aS, b_aS⟩) (x_aShape : Nat) (hf_aShape : x_aShape < 2 ^ 32) :
    Calls Try.prog 3 #[.agg #[.int .i64 k_aS, .int .u64 a_aS, .int .u64 b_aS], .float .f32 x_aShape] w fun e w' => e = .returned (.bool true) ∧ Below w.heap.size w w' :=
  law_GammaSeed gammaSeed specGamma_any implGamma_any w k_aS a_aS b_aS hf_aS x_aShape hf_aShape
end Go.Proofs.Ytahimjdfkmhknaa
