/- The walk of the statement FnExactTreeSeed, whole. -/
import Derived.Test.YtbfofbpjdmgogaaLawTreeSeed
import Derived.Test.YtbfofbpjdmgogaaTreeSeed
namespace Go.Proofs.Ytbfofbpjdmgogaa
open Go.RowKit
theorem walk_TreeSeed
    (w : World) (k_aS a_aS b_aS : Int) (hf_aS : Sd.ok ⟨k_aS, a_aS, b_aS⟩) (A_aTree : Option Addr) (n_aTree c_aTree : Nat) (xs_aTree : List Int) (h_aTree : Rd w w.heap.size A_aTree n_aTree (i64s xs_aTree)) (hn_aTree : n_aTree ≤ maxLen) (hf_aTree : Fit xs_aTree) :
    Calls Try.prog 12 #[.agg #[.int .i64 k_aS, .int .u64 a_aS, .int .u64 b_aS], .slice A_aTree n_aTree c_aTree] w fun e w' => e = .returned (.bool true) ∧ Below w.heap.size w w' :=
  law_TreeSeed treeSeed specTreeSeed_any implTreeSeed_any w k_aS a_aS b_aS hf_aS A_aTree n_aTree c_aTree xs_aTree h_aTree hn_aTree hf_aTree
end Go.Proofs.Ytbfofbpjdmgogaa
