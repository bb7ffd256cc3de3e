/- The walk of the statement FnExactNumberOfOrder, whole. -/
import Derived.Test.YticenfholnencaaLawNumberOfOrder
import Derived.Test.YticenfholnencaaNumOrd
namespace Go.Proofs.Yticenfholnencaa
open Go.RowKit
theorem walk_NumberOfOrder
    (w : World) (A_aList : Option Addr) (n_aList c_aList : Nat) (xs_aList : List Int) (h_aList : Rd w w.heap.size A_aList n_aList (i64s xs_aList)) (hn_aList : n_aList ≤ maxLen) (hf_aList : Fit xs_aList) :
    Calls Try.prog 10 #[.slice A_aList n_aList c_aList] w fun e w' => e = .returned (.bool true) ∧ Below w.heap.size w w' :=
  law_NumberOfOrder numOrd specNumOrd implNumOrd w A_aList n_aList c_aList xs_aList h_aList hn_aList hf_aList
end Go.Proofs.Yticenfholnencaa
