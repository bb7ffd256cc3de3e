/- More frames of statements. -/
import Derived.Test.YtgbehnkccgahoaaShapesS
namespace Go.Proofs.Ytgbehnkccgahoaa
open Go.RowKit
def FnSF_SNB (f : Nat) (r : Sd → Nat → Option (Sd × Int)) : Prop :=
  ∀ (k a b : Int) (x : Nat) (w : World), Sd.ok ⟨k, a, b⟩ → x < 2 ^ 32 → Calls Try.prog f #[.agg #[.int .i64 k, .int .u64 a, .int .u64 b], .float .f32 x] w (GaveSNB w (r ⟨k, a, b⟩ x))
end Go.Proofs.Ytgbehnkccgahoaa
