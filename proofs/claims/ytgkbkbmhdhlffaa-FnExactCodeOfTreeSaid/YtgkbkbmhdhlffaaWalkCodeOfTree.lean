/- The walk of the statement FnExactCodeOfTree, whole. -/
import Derived.Test.YtgkbkbmhdhlffaaLawCodeOfTree
import Derived.Test.YtgkbkbmhdhlffaaCodeS
import Derived.Test.YtgkbkbmhdhlffaaCodeI
import Derived.Test.YtgkbkbmhdhlffaaCodeT
namespace Go.Proofs.Ytgkbkbmhdhlffaa
open Go.RowKit
theorem walk_CodeOfTree
    (w : World) (A_aEdges : Option Addr) (n_aEdges c_aEdges : Nat) (xs_aEdges : List Int) (h_aEdges : Rd w w.heap.size A_aEdges n_aEdges (i64s xs_aEdges)) (hn_aEdges : n_aEdges ≤ maxLen) (hf_aEdges : Fit xs_aEdges) (n_aN : Int) (hf_aN : -9223372036854775808 ≤ n_aN ∧ n_aN ≤ 9223372036854775807) :
    Calls Try.prog 4 #[.slice A_aEdges n_aEdges c_aEdges, .int .i64 n_aN] w fun e w' => e = .returned (.bool true) ∧ Below w.heap.size w w' :=
  law_CodeOfTree codeR specCode implCode codeR_short w A_aEdges n_aEdges c_aEdges xs_aEdges h_aEdges hn_aEdges hf_aEdges n_aN hf_aN
end Go.Proofs.Ytgkbkbmhdhlffaa
