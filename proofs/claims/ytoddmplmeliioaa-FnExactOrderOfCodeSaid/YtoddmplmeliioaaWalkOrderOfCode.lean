/- The walk of the statement FnExactOrderOfCode, whole. -/
import Derived.Test.YtoddmplmeliioaaLawOrderOfCode
import Derived.Test.YtoddmplmeliioaaOrderCode
namespace Go.Proofs.Ytoddmplmeliioaa
open Go.RowKit
theorem walk_OrderOfCode
    (w : World) (A_aCode : Option Addr) (n_aCode c_aCode : Nat) (xs_aCode : List Int) (h_aCode : Rd w w.heap.size A_aCode n_aCode (i64s xs_aCode)) (hn_aCode : n_aCode ≤ maxLen) (hf_aCode : Fit xs_aCode) :
    Calls Try.prog 5 #[.slice A_aCode n_aCode c_aCode] w fun e w' => e = .returned (.bool true) ∧ Below w.heap.size w w' :=
  law_OrderOfCode orderOfCode specOrderOfCode implOrderOfCode orderOfCode_short w A_aCode n_aCode c_aCode xs_aCode h_aCode hn_aCode hf_aCode
end Go.Proofs.Ytoddmplmeliioaa
