/- The walk of the statement FnExactBellQuotient, whole. -/
import Derived.Test.YtdofpnhmlhkoiaaLawBellQuotient
import Derived.Test.YtdofpnhmlhkoiaaBell
namespace Go.Proofs.Ytdofpnhmlhkoiaa
open Go.RowKit
theorem walk_BellQuotient
    (w : World) (k_aS a_aS b_aS : Int) (hf_aS : Sd.ok ⟨k_aS, a_aS, b_aS⟩) :
    Calls Try.prog 4 #[.agg #[.int .i64 k_aS, .int .u64 a_aS, .int .u64 b_aS]] w fun e w' => e = .returned (.bool true) ∧ Below w.heap.size w w' :=
  law_BellQuotient bellSeed specBell_any implBell_any w k_aS a_aS b_aS hf_aS
end Go.Proofs.Ytdofpnhmlhkoiaa
