/- The walk of the statement FnExactChiOf, whole. -/
import Derived.Test.YticenfholnencaaLawChiOf
import Derived.Test.YticenfholnencaaChi
namespace Go.Proofs.Yticenfholnencaa
open Go.RowKit
theorem walk_ChiOf
    (w : World) (A_aCounts : Option Addr) (n_aCounts c_aCounts : Nat) (xs_aCounts : List Int) (h_aCounts : Rd w w.heap.size A_aCounts n_aCounts (i64s xs_aCounts)) (hn_aCounts : n_aCounts ≤ maxLen) (hf_aCounts : Fit xs_aCounts) (A_aShares : Option Addr) (n_aShares c_aShares : Nat) (xs_aShares : List Nat) (h_aShares : Rd w w.heap.size A_aShares n_aShares (f32s xs_aShares)) (hn_aShares : n_aShares ≤ maxLen) :
    Calls Try.prog 5 #[.slice A_aCounts n_aCounts c_aCounts, .slice A_aShares n_aShares c_aShares] w fun e w' => e = .returned (.bool true) ∧ Below w.heap.size w w' :=
  law_ChiOf chiOf specChi implChi w A_aCounts n_aCounts c_aCounts xs_aCounts h_aCounts hn_aCounts hf_aCounts A_aShares n_aShares c_aShares xs_aShares h_aShares hn_aShares
end Go.Proofs.Yticenfholnencaa
