/- The walk of the statement FnExactArePicks, whole. -/
import Derived.Test.YtoddmplmeliioaaLawArePicks
import Derived.Test.YtoddmplmeliioaaPicks
namespace Go.Proofs.Ytoddmplmeliioaa
open Go.RowKit
theorem walk_ArePicks
    (w : World) (A_aWeights : Option Addr) (n_aWeights c_aWeights : Nat) (xs_aWeights : List Nat) (h_aWeights : Rd w w.heap.size A_aWeights n_aWeights (f32s xs_aWeights)) (hn_aWeights : n_aWeights ≤ maxLen) :
    Calls Try.prog 3 #[.slice A_aWeights n_aWeights c_aWeights] w fun e w' => e = .returned (.bool true) ∧ Below w.heap.size w w' :=
  law_ArePicks picksB specArePicks implArePicks w A_aWeights n_aWeights c_aWeights xs_aWeights h_aWeights hn_aWeights
end Go.Proofs.Ytoddmplmeliioaa
