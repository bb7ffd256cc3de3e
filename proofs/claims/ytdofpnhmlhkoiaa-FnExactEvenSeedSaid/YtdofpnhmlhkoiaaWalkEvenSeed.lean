/- The walk of the statement FnExactEvenSeed, whole. -/
import Derived.Test.YtdofpnhmlhkoiaaLawEvenSeed
import Derived.Test.YtdofpnhmlhkoiaaEvenI
namespace Go.Proofs.Ytdofpnhmlhkoiaa
open Go.RowKit
theorem walk_EvenSeed
    (w : World) (k_aS a_aS b_aS : Int) (hf_aS : Sd.ok ⟨k_aS, a_aS, b_aS⟩) :
    Calls Try.prog 8 #[.agg #[.int .i64 k_aS, .int .u64 a_aS, .int .u64 b_aS]] w fun e w' => e = .returned (.bool true) ∧ Below w.heap.size w w' :=
  law_EvenSeed evenSeed specEven_any implEven_any w k_aS a_aS b_aS hf_aS
end Go.Proofs.Ytdofpnhmlhkoiaa
