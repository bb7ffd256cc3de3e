/- The walk of the statement FnExactCodeOfOrder, whole. -/
import Derived.Test.YticenfholnencaaLawCodeOfOrder
import Derived.Test.YticenfholnencaaCode
namespace Go.Proofs.Yticenfholnencaa
open Go.RowKit
theorem walk_CodeOfOrder
    (w : World) (A_aList : Option Addr) (n_aList c_aList : Nat) (xs_aList : List Int) (h_aList : Rd w w.heap.size A_aList n_aList (i64s xs_aList)) (hn_aList : n_aList ≤ maxLen) (hf_aList : Fit xs_aList) :
    Calls Try.prog 11 #[.slice A_aList n_aList c_aList] w fun e w' => e = .returned (.bool true) ∧ Below w.heap.size w w' :=
  law_CodeOfOrder codeOrd specCodeOrd implCodeOrd codeOrd_short w A_aList n_aList c_aList xs_aList h_aList hn_aList hf_aList
end Go.Proofs.Yticenfholnencaa
